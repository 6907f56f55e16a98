/- Texts joined by wip/gen/kpack.py: TbF U24 D23 U25 U26 U27 U28 D24 U29 U30 S18 U31 D25. -/
import Derived.Test.YtbjepdfnmbdplaaGreatKA6
section
namespace Go.Proofs.YtbjepdfnmbdplaaGreat
open Go.RowKit
theorem ti1 : TIok Tryz.prog 1 ⟨false, 1, .other, some [.nilFunc], some (.nilFunc, 8)⟩ := ⟨by kernel_rfl, trivial, (zeroOK_of (by kernel_rfl)), (ezOK_of (by kernel_rfl))⟩
theorem ti41 : TIok Tryz.prog 41 ⟨false, 1, .other, some [.nilFunc], some (.nilFunc, 8)⟩ := ⟨by kernel_rfl, trivial, (zeroOK_of (by kernel_rfl)), (ezOK_of (by kernel_rfl))⟩
theorem ti42 : TIok Tryz.prog 42 ⟨false, 1, .other, some [.nilFunc], some (.nilFunc, 8)⟩ := ⟨by kernel_rfl, trivial, (zeroOK_of (by kernel_rfl)), (ezOK_of (by kernel_rfl))⟩
theorem ti43 : TIok Tryz.prog 43 ⟨false, 1, .other, some [.nilFunc], some (.nilFunc, 8)⟩ := ⟨by kernel_rfl, trivial, (zeroOK_of (by kernel_rfl)), (ezOK_of (by kernel_rfl))⟩
theorem ti44 : TIok Tryz.prog 44 ⟨false, 1, .other, some [.nilFunc], some (.nilFunc, 8)⟩ := ⟨by kernel_rfl, trivial, (zeroOK_of (by kernel_rfl)), (ezOK_of (by kernel_rfl))⟩
theorem ti47 : TIok Tryz.prog 47 ⟨false, 1, .other, some [.nilFunc], some (.nilFunc, 8)⟩ := ⟨by kernel_rfl, trivial, (zeroOK_of (by kernel_rfl)), (ezOK_of (by kernel_rfl))⟩
theorem ti48 : TIok Tryz.prog 48 ⟨false, 1, .other, some [.nilFunc], some (.nilFunc, 8)⟩ := ⟨by kernel_rfl, trivial, (zeroOK_of (by kernel_rfl)), (ezOK_of (by kernel_rfl))⟩
theorem ti49 : TIok Tryz.prog 49 ⟨false, 1, .other, some [.nilFunc], some (.nilFunc, 8)⟩ := ⟨by kernel_rfl, trivial, (zeroOK_of (by kernel_rfl)), (ezOK_of (by kernel_rfl))⟩
theorem ti50 : TIok Tryz.prog 50 ⟨false, 1, .other, some [.nilFunc], some (.nilFunc, 8)⟩ := ⟨by kernel_rfl, trivial, (zeroOK_of (by kernel_rfl)), (ezOK_of (by kernel_rfl))⟩
theorem ti51 : TIok Tryz.prog 51 ⟨false, 1, .other, some [.nilFunc], some (.nilFunc, 8)⟩ := ⟨by kernel_rfl, trivial, (zeroOK_of (by kernel_rfl)), (ezOK_of (by kernel_rfl))⟩
theorem ti53 : TIok Tryz.prog 53 ⟨false, 1, .other, some [.nilFunc], some (.nilFunc, 8)⟩ := ⟨by kernel_rfl, trivial, (zeroOK_of (by kernel_rfl)), (ezOK_of (by kernel_rfl))⟩
theorem ti54 : TIok Tryz.prog 54 ⟨false, 1, .other, some [.nilFunc], some (.nilFunc, 8)⟩ := ⟨by kernel_rfl, trivial, (zeroOK_of (by kernel_rfl)), (ezOK_of (by kernel_rfl))⟩
theorem ti55 : TIok Tryz.prog 55 ⟨false, 1, .other, some [.nilFunc], some (.nilFunc, 8)⟩ := ⟨by kernel_rfl, trivial, (zeroOK_of (by kernel_rfl)), (ezOK_of (by kernel_rfl))⟩
theorem ti58 : TIok Tryz.prog 58 ⟨false, 1, .other, some [.nilFunc], some (.nilFunc, 8)⟩ := ⟨by kernel_rfl, trivial, (zeroOK_of (by kernel_rfl)), (ezOK_of (by kernel_rfl))⟩
theorem ti59 : TIok Tryz.prog 59 ⟨false, 1, .other, some [.nilFunc], some (.nilFunc, 8)⟩ := ⟨by kernel_rfl, trivial, (zeroOK_of (by kernel_rfl)), (ezOK_of (by kernel_rfl))⟩
theorem ti60 : TIok Tryz.prog 60 ⟨false, 1, .other, some [.nilFunc], some (.nilFunc, 8)⟩ := ⟨by kernel_rfl, trivial, (zeroOK_of (by kernel_rfl)), (ezOK_of (by kernel_rfl))⟩
theorem ti61 : TIok Tryz.prog 61 ⟨false, 1, .other, some [.nilFunc], some (.nilFunc, 8)⟩ := ⟨by kernel_rfl, trivial, (zeroOK_of (by kernel_rfl)), (ezOK_of (by kernel_rfl))⟩
theorem ti64 : TIok Tryz.prog 64 ⟨false, 1, .other, some [.nilFunc], some (.nilFunc, 8)⟩ := ⟨by kernel_rfl, trivial, (zeroOK_of (by kernel_rfl)), (ezOK_of (by kernel_rfl))⟩
theorem ti65 : TIok Tryz.prog 65 ⟨false, 1, .other, some [.nilFunc], some (.nilFunc, 8)⟩ := ⟨by kernel_rfl, trivial, (zeroOK_of (by kernel_rfl)), (ezOK_of (by kernel_rfl))⟩
theorem ti66 : TIok Tryz.prog 66 ⟨false, 1, .other, some [.nilFunc], some (.nilFunc, 8)⟩ := ⟨by kernel_rfl, trivial, (zeroOK_of (by kernel_rfl)), (ezOK_of (by kernel_rfl))⟩
theorem ti68 : TIok Tryz.prog 68 ⟨false, 1, .other, some [.nilFunc], some (.nilFunc, 8)⟩ := ⟨by kernel_rfl, trivial, (zeroOK_of (by kernel_rfl)), (ezOK_of (by kernel_rfl))⟩
theorem ti69 : TIok Tryz.prog 69 ⟨false, 1, .other, some [.nilFunc], some (.nilFunc, 8)⟩ := ⟨by kernel_rfl, trivial, (zeroOK_of (by kernel_rfl)), (ezOK_of (by kernel_rfl))⟩
theorem ti70 : TIok Tryz.prog 70 ⟨false, 1, .other, some [.nilFunc], some (.nilFunc, 8)⟩ := ⟨by kernel_rfl, trivial, (zeroOK_of (by kernel_rfl)), (ezOK_of (by kernel_rfl))⟩
theorem ti76 : TIok Tryz.prog 76 ⟨false, 1, .other, some [.nilFunc], some (.nilFunc, 8)⟩ := ⟨by kernel_rfl, trivial, (zeroOK_of (by kernel_rfl)), (ezOK_of (by kernel_rfl))⟩
theorem ti77 : TIok Tryz.prog 77 ⟨false, 1, .other, some [.nilFunc], some (.nilFunc, 8)⟩ := ⟨by kernel_rfl, trivial, (zeroOK_of (by kernel_rfl)), (ezOK_of (by kernel_rfl))⟩
theorem ti78 : TIok Tryz.prog 78 ⟨false, 1, .other, some [.nilFunc], some (.nilFunc, 8)⟩ := ⟨by kernel_rfl, trivial, (zeroOK_of (by kernel_rfl)), (ezOK_of (by kernel_rfl))⟩
theorem ti83 : TIok Tryz.prog 83 ⟨false, 1, .other, some [.nilFunc], some (.nilFunc, 8)⟩ := ⟨by kernel_rfl, trivial, (zeroOK_of (by kernel_rfl)), (ezOK_of (by kernel_rfl))⟩
theorem ti84 : TIok Tryz.prog 84 ⟨false, 1, .other, some [.nilFunc], some (.nilFunc, 8)⟩ := ⟨by kernel_rfl, trivial, (zeroOK_of (by kernel_rfl)), (ezOK_of (by kernel_rfl))⟩
theorem ti87 : TIok Tryz.prog 87 ⟨false, 1, .other, some [.nilFunc], some (.nilFunc, 8)⟩ := ⟨by kernel_rfl, trivial, (zeroOK_of (by kernel_rfl)), (ezOK_of (by kernel_rfl))⟩
theorem ti88 : TIok Tryz.prog 88 ⟨false, 1, .other, some [.nilFunc], some (.nilFunc, 8)⟩ := ⟨by kernel_rfl, trivial, (zeroOK_of (by kernel_rfl)), (ezOK_of (by kernel_rfl))⟩
theorem ti91 : TIok Tryz.prog 91 ⟨false, 1, .other, some [.nilFunc], some (.nilFunc, 8)⟩ := ⟨by kernel_rfl, trivial, (zeroOK_of (by kernel_rfl)), (ezOK_of (by kernel_rfl))⟩
theorem ti92 : TIok Tryz.prog 92 ⟨false, 1, .other, some [.nilFunc], some (.nilFunc, 8)⟩ := ⟨by kernel_rfl, trivial, (zeroOK_of (by kernel_rfl)), (ezOK_of (by kernel_rfl))⟩
theorem ti93 : TIok Tryz.prog 93 ⟨false, 1, .other, some [.nilFunc], some (.nilFunc, 8)⟩ := ⟨by kernel_rfl, trivial, (zeroOK_of (by kernel_rfl)), (ezOK_of (by kernel_rfl))⟩
theorem ti95 : TIok Tryz.prog 95 ⟨false, 1, .other, some [.nilFunc], some (.nilFunc, 8)⟩ := ⟨by kernel_rfl, trivial, (zeroOK_of (by kernel_rfl)), (ezOK_of (by kernel_rfl))⟩
theorem ti97 : TIok Tryz.prog 97 ⟨false, 1, .other, some [.nilFunc], some (.nilFunc, 8)⟩ := ⟨by kernel_rfl, trivial, (zeroOK_of (by kernel_rfl)), (ezOK_of (by kernel_rfl))⟩
theorem ti98 : TIok Tryz.prog 98 ⟨false, 1, .other, some [.nilFunc], some (.nilFunc, 8)⟩ := ⟨by kernel_rfl, trivial, (zeroOK_of (by kernel_rfl)), (ezOK_of (by kernel_rfl))⟩
theorem ti99 : TIok Tryz.prog 99 ⟨false, 1, .other, some [.nilFunc], some (.nilFunc, 8)⟩ := ⟨by kernel_rfl, trivial, (zeroOK_of (by kernel_rfl)), (ezOK_of (by kernel_rfl))⟩
theorem ti100 : TIok Tryz.prog 100 ⟨false, 1, .other, some [.nilFunc], some (.nilFunc, 8)⟩ := ⟨by kernel_rfl, trivial, (zeroOK_of (by kernel_rfl)), (ezOK_of (by kernel_rfl))⟩
theorem ti102 : TIok Tryz.prog 102 ⟨false, 1, .other, some [.nilFunc], some (.nilFunc, 8)⟩ := ⟨by kernel_rfl, trivial, (zeroOK_of (by kernel_rfl)), (ezOK_of (by kernel_rfl))⟩
theorem ti103 : TIok Tryz.prog 103 ⟨false, 1, .other, some [.nilFunc], some (.nilFunc, 8)⟩ := ⟨by kernel_rfl, trivial, (zeroOK_of (by kernel_rfl)), (ezOK_of (by kernel_rfl))⟩
theorem ti104 : TIok Tryz.prog 104 ⟨false, 1, .other, some [.nilFunc], some (.nilFunc, 8)⟩ := ⟨by kernel_rfl, trivial, (zeroOK_of (by kernel_rfl)), (ezOK_of (by kernel_rfl))⟩
theorem ti105 : TIok Tryz.prog 105 ⟨false, 1, .other, some [.nilFunc], some (.nilFunc, 8)⟩ := ⟨by kernel_rfl, trivial, (zeroOK_of (by kernel_rfl)), (ezOK_of (by kernel_rfl))⟩
theorem ti106 : TIok Tryz.prog 106 ⟨false, 1, .other, some [.nilFunc], some (.nilFunc, 8)⟩ := ⟨by kernel_rfl, trivial, (zeroOK_of (by kernel_rfl)), (ezOK_of (by kernel_rfl))⟩
theorem ti107 : TIok Tryz.prog 107 ⟨false, 1, .other, some [.nilFunc], some (.nilFunc, 8)⟩ := ⟨by kernel_rfl, trivial, (zeroOK_of (by kernel_rfl)), (ezOK_of (by kernel_rfl))⟩
theorem ti108 : TIok Tryz.prog 108 ⟨false, 1, .other, some [.nilFunc], some (.nilFunc, 8)⟩ := ⟨by kernel_rfl, trivial, (zeroOK_of (by kernel_rfl)), (ezOK_of (by kernel_rfl))⟩
theorem ti109 : TIok Tryz.prog 109 ⟨false, 1, .other, some [.nilFunc], some (.nilFunc, 8)⟩ := ⟨by kernel_rfl, trivial, (zeroOK_of (by kernel_rfl)), (ezOK_of (by kernel_rfl))⟩
theorem ti110 : TIok Tryz.prog 110 ⟨false, 1, .other, some [.nilFunc], some (.nilFunc, 8)⟩ := ⟨by kernel_rfl, trivial, (zeroOK_of (by kernel_rfl)), (ezOK_of (by kernel_rfl))⟩
theorem ti111 : TIok Tryz.prog 111 ⟨false, 1, .other, some [.nilFunc], some (.nilFunc, 8)⟩ := ⟨by kernel_rfl, trivial, (zeroOK_of (by kernel_rfl)), (ezOK_of (by kernel_rfl))⟩
theorem ti112 : TIok Tryz.prog 112 ⟨false, 1, .other, some [.nilFunc], some (.nilFunc, 8)⟩ := ⟨by kernel_rfl, trivial, (zeroOK_of (by kernel_rfl)), (ezOK_of (by kernel_rfl))⟩
theorem ti114 : TIok Tryz.prog 114 ⟨false, 1, .other, some [.nilFunc], some (.nilFunc, 8)⟩ := ⟨by kernel_rfl, trivial, (zeroOK_of (by kernel_rfl)), (ezOK_of (by kernel_rfl))⟩
theorem ti115 : TIok Tryz.prog 115 ⟨false, 1, .other, some [.nilFunc], some (.nilFunc, 8)⟩ := ⟨by kernel_rfl, trivial, (zeroOK_of (by kernel_rfl)), (ezOK_of (by kernel_rfl))⟩
theorem ti116 : TIok Tryz.prog 116 ⟨false, 1, .other, some [.nilFunc], some (.nilFunc, 8)⟩ := ⟨by kernel_rfl, trivial, (zeroOK_of (by kernel_rfl)), (ezOK_of (by kernel_rfl))⟩
theorem ti117 : TIok Tryz.prog 117 ⟨false, 1, .other, some [.nilFunc], some (.nilFunc, 8)⟩ := ⟨by kernel_rfl, trivial, (zeroOK_of (by kernel_rfl)), (ezOK_of (by kernel_rfl))⟩
theorem ti118 : TIok Tryz.prog 118 ⟨false, 1, .other, some [.nilFunc], some (.nilFunc, 8)⟩ := ⟨by kernel_rfl, trivial, (zeroOK_of (by kernel_rfl)), (ezOK_of (by kernel_rfl))⟩
theorem ti124 : TIok Tryz.prog 124 ⟨false, 1, .other, some [.nilFunc], some (.nilFunc, 8)⟩ := ⟨by kernel_rfl, trivial, (zeroOK_of (by kernel_rfl)), (ezOK_of (by kernel_rfl))⟩
theorem ti125 : TIok Tryz.prog 125 ⟨false, 1, .other, some [.nilFunc], some (.nilFunc, 8)⟩ := ⟨by kernel_rfl, trivial, (zeroOK_of (by kernel_rfl)), (ezOK_of (by kernel_rfl))⟩
theorem ti126 : TIok Tryz.prog 126 ⟨false, 1, .other, some [.nilFunc], some (.nilFunc, 8)⟩ := ⟨by kernel_rfl, trivial, (zeroOK_of (by kernel_rfl)), (ezOK_of (by kernel_rfl))⟩
theorem ti127 : TIok Tryz.prog 127 ⟨false, 1, .other, some [.nilFunc], some (.nilFunc, 8)⟩ := ⟨by kernel_rfl, trivial, (zeroOK_of (by kernel_rfl)), (ezOK_of (by kernel_rfl))⟩
theorem ti129 : TIok Tryz.prog 129 ⟨false, 1, .other, some [.nilFunc], some (.nilFunc, 8)⟩ := ⟨by kernel_rfl, trivial, (zeroOK_of (by kernel_rfl)), (ezOK_of (by kernel_rfl))⟩
theorem ti131 : TIok Tryz.prog 131 ⟨false, 1, .other, some [.nilFunc], some (.nilFunc, 8)⟩ := ⟨by kernel_rfl, trivial, (zeroOK_of (by kernel_rfl)), (ezOK_of (by kernel_rfl))⟩
theorem ti132 : TIok Tryz.prog 132 ⟨false, 1, .other, some [.nilFunc], some (.nilFunc, 8)⟩ := ⟨by kernel_rfl, trivial, (zeroOK_of (by kernel_rfl)), (ezOK_of (by kernel_rfl))⟩
theorem ti134 : TIok Tryz.prog 134 ⟨false, 1, .other, some [.nilFunc], some (.nilFunc, 8)⟩ := ⟨by kernel_rfl, trivial, (zeroOK_of (by kernel_rfl)), (ezOK_of (by kernel_rfl))⟩
theorem ti135 : TIok Tryz.prog 135 ⟨false, 1, .other, some [.nilFunc], some (.nilFunc, 8)⟩ := ⟨by kernel_rfl, trivial, (zeroOK_of (by kernel_rfl)), (ezOK_of (by kernel_rfl))⟩
theorem ti136 : TIok Tryz.prog 136 ⟨false, 1, .other, some [.nilFunc], some (.nilFunc, 8)⟩ := ⟨by kernel_rfl, trivial, (zeroOK_of (by kernel_rfl)), (ezOK_of (by kernel_rfl))⟩
theorem ti140 : TIok Tryz.prog 140 ⟨false, 1, .other, some [.nilFunc], some (.nilFunc, 8)⟩ := ⟨by kernel_rfl, trivial, (zeroOK_of (by kernel_rfl)), (ezOK_of (by kernel_rfl))⟩
theorem ti141 : TIok Tryz.prog 141 ⟨false, 1, .other, some [.nilFunc], some (.nilFunc, 8)⟩ := ⟨by kernel_rfl, trivial, (zeroOK_of (by kernel_rfl)), (ezOK_of (by kernel_rfl))⟩
theorem ti142 : TIok Tryz.prog 142 ⟨false, 1, .other, some [.nilFunc], some (.nilFunc, 8)⟩ := ⟨by kernel_rfl, trivial, (zeroOK_of (by kernel_rfl)), (ezOK_of (by kernel_rfl))⟩
theorem ti143 : TIok Tryz.prog 143 ⟨false, 1, .other, some [.nilFunc], some (.nilFunc, 8)⟩ := ⟨by kernel_rfl, trivial, (zeroOK_of (by kernel_rfl)), (ezOK_of (by kernel_rfl))⟩
theorem ti144 : TIok Tryz.prog 144 ⟨false, 1, .other, some [.nilFunc], some (.nilFunc, 8)⟩ := ⟨by kernel_rfl, trivial, (zeroOK_of (by kernel_rfl)), (ezOK_of (by kernel_rfl))⟩
theorem ti146 : TIok Tryz.prog 146 ⟨false, 1, .other, some [.nilFunc], some (.nilFunc, 8)⟩ := ⟨by kernel_rfl, trivial, (zeroOK_of (by kernel_rfl)), (ezOK_of (by kernel_rfl))⟩
theorem ti147 : TIok Tryz.prog 147 ⟨false, 1, .other, some [.nilFunc], some (.nilFunc, 8)⟩ := ⟨by kernel_rfl, trivial, (zeroOK_of (by kernel_rfl)), (ezOK_of (by kernel_rfl))⟩
theorem ti149 : TIok Tryz.prog 149 ⟨false, 1, .other, some [.nilFunc], some (.nilFunc, 8)⟩ := ⟨by kernel_rfl, trivial, (zeroOK_of (by kernel_rfl)), (ezOK_of (by kernel_rfl))⟩
theorem ti150 : TIok Tryz.prog 150 ⟨false, 1, .other, some [.nilFunc], some (.nilFunc, 8)⟩ := ⟨by kernel_rfl, trivial, (zeroOK_of (by kernel_rfl)), (ezOK_of (by kernel_rfl))⟩
theorem ti152 : TIok Tryz.prog 152 ⟨false, 1, .other, some [.nilFunc], some (.nilFunc, 8)⟩ := ⟨by kernel_rfl, trivial, (zeroOK_of (by kernel_rfl)), (ezOK_of (by kernel_rfl))⟩
theorem ti154 : TIok Tryz.prog 154 ⟨false, 1, .other, some [.nilFunc], some (.nilFunc, 8)⟩ := ⟨by kernel_rfl, trivial, (zeroOK_of (by kernel_rfl)), (ezOK_of (by kernel_rfl))⟩
theorem ti155 : TIok Tryz.prog 155 ⟨false, 1, .other, some [.nilFunc], some (.nilFunc, 8)⟩ := ⟨by kernel_rfl, trivial, (zeroOK_of (by kernel_rfl)), (ezOK_of (by kernel_rfl))⟩
theorem ti157 : TIok Tryz.prog 157 ⟨false, 1, .other, some [.nilFunc], some (.nilFunc, 8)⟩ := ⟨by kernel_rfl, trivial, (zeroOK_of (by kernel_rfl)), (ezOK_of (by kernel_rfl))⟩
theorem ti158 : TIok Tryz.prog 158 ⟨false, 1, .other, some [.nilFunc], some (.nilFunc, 8)⟩ := ⟨by kernel_rfl, trivial, (zeroOK_of (by kernel_rfl)), (ezOK_of (by kernel_rfl))⟩
theorem ti161 : TIok Tryz.prog 161 ⟨false, 1, .other, some [.nilFunc], some (.nilFunc, 8)⟩ := ⟨by kernel_rfl, trivial, (zeroOK_of (by kernel_rfl)), (ezOK_of (by kernel_rfl))⟩
theorem ti164 : TIok Tryz.prog 164 ⟨false, 1, .other, some [.nilFunc], some (.nilFunc, 8)⟩ := ⟨by kernel_rfl, trivial, (zeroOK_of (by kernel_rfl)), (ezOK_of (by kernel_rfl))⟩
theorem ti165 : TIok Tryz.prog 165 ⟨false, 1, .other, some [.nilFunc], some (.nilFunc, 8)⟩ := ⟨by kernel_rfl, trivial, (zeroOK_of (by kernel_rfl)), (ezOK_of (by kernel_rfl))⟩
theorem ti167 : TIok Tryz.prog 167 ⟨false, 1, .other, some [.nilFunc], some (.nilFunc, 8)⟩ := ⟨by kernel_rfl, trivial, (zeroOK_of (by kernel_rfl)), (ezOK_of (by kernel_rfl))⟩
theorem ti168 : TIok Tryz.prog 168 ⟨false, 1, .other, some [.nilFunc], some (.nilFunc, 8)⟩ := ⟨by kernel_rfl, trivial, (zeroOK_of (by kernel_rfl)), (ezOK_of (by kernel_rfl))⟩
theorem ti169 : TIok Tryz.prog 169 ⟨false, 1, .other, some [.nilFunc], some (.nilFunc, 8)⟩ := ⟨by kernel_rfl, trivial, (zeroOK_of (by kernel_rfl)), (ezOK_of (by kernel_rfl))⟩
theorem ti170 : TIok Tryz.prog 170 ⟨false, 1, .other, some [.nilFunc], some (.nilFunc, 8)⟩ := ⟨by kernel_rfl, trivial, (zeroOK_of (by kernel_rfl)), (ezOK_of (by kernel_rfl))⟩
theorem ti171 : TIok Tryz.prog 171 ⟨false, 1, .other, some [.nilFunc], some (.nilFunc, 8)⟩ := ⟨by kernel_rfl, trivial, (zeroOK_of (by kernel_rfl)), (ezOK_of (by kernel_rfl))⟩
theorem ti173 : TIok Tryz.prog 173 ⟨false, 1, .other, some [.nilFunc], some (.nilFunc, 8)⟩ := ⟨by kernel_rfl, trivial, (zeroOK_of (by kernel_rfl)), (ezOK_of (by kernel_rfl))⟩
theorem ti174 : TIok Tryz.prog 174 ⟨false, 1, .other, some [.nilFunc], some (.nilFunc, 8)⟩ := ⟨by kernel_rfl, trivial, (zeroOK_of (by kernel_rfl)), (ezOK_of (by kernel_rfl))⟩
theorem ti175 : TIok Tryz.prog 175 ⟨false, 1, .other, some [.nilFunc], some (.nilFunc, 8)⟩ := ⟨by kernel_rfl, trivial, (zeroOK_of (by kernel_rfl)), (ezOK_of (by kernel_rfl))⟩
theorem ti176 : TIok Tryz.prog 176 ⟨false, 1, .other, some [.nilFunc], some (.nilFunc, 8)⟩ := ⟨by kernel_rfl, trivial, (zeroOK_of (by kernel_rfl)), (ezOK_of (by kernel_rfl))⟩
theorem ti179 : TIok Tryz.prog 179 ⟨false, 1, .other, some [.nilFunc], some (.nilFunc, 8)⟩ := ⟨by kernel_rfl, trivial, (zeroOK_of (by kernel_rfl)), (ezOK_of (by kernel_rfl))⟩
theorem ti180 : TIok Tryz.prog 180 ⟨false, 1, .other, some [.nilFunc], some (.nilFunc, 8)⟩ := ⟨by kernel_rfl, trivial, (zeroOK_of (by kernel_rfl)), (ezOK_of (by kernel_rfl))⟩
theorem ti181 : TIok Tryz.prog 181 ⟨false, 1, .other, some [.nilFunc], some (.nilFunc, 8)⟩ := ⟨by kernel_rfl, trivial, (zeroOK_of (by kernel_rfl)), (ezOK_of (by kernel_rfl))⟩
theorem ti182 : TIok Tryz.prog 182 ⟨false, 1, .other, some [.nilFunc], some (.nilFunc, 8)⟩ := ⟨by kernel_rfl, trivial, (zeroOK_of (by kernel_rfl)), (ezOK_of (by kernel_rfl))⟩
theorem ti183 : TIok Tryz.prog 183 ⟨false, 1, .other, some [.nilFunc], some (.nilFunc, 8)⟩ := ⟨by kernel_rfl, trivial, (zeroOK_of (by kernel_rfl)), (ezOK_of (by kernel_rfl))⟩
theorem ti185 : TIok Tryz.prog 185 ⟨false, 1, .other, some [.nilFunc], some (.nilFunc, 8)⟩ := ⟨by kernel_rfl, trivial, (zeroOK_of (by kernel_rfl)), (ezOK_of (by kernel_rfl))⟩
theorem ti186 : TIok Tryz.prog 186 ⟨false, 1, .other, some [.nilFunc], some (.nilFunc, 8)⟩ := ⟨by kernel_rfl, trivial, (zeroOK_of (by kernel_rfl)), (ezOK_of (by kernel_rfl))⟩
theorem ti187 : TIok Tryz.prog 187 ⟨false, 1, .other, some [.nilFunc], some (.nilFunc, 8)⟩ := ⟨by kernel_rfl, trivial, (zeroOK_of (by kernel_rfl)), (ezOK_of (by kernel_rfl))⟩
theorem ti188 : TIok Tryz.prog 188 ⟨false, 1, .other, some [.nilFunc], some (.nilFunc, 8)⟩ := ⟨by kernel_rfl, trivial, (zeroOK_of (by kernel_rfl)), (ezOK_of (by kernel_rfl))⟩
theorem ti189 : TIok Tryz.prog 189 ⟨false, 1, .other, some [.nilFunc], some (.nilFunc, 8)⟩ := ⟨by kernel_rfl, trivial, (zeroOK_of (by kernel_rfl)), (ezOK_of (by kernel_rfl))⟩
theorem ti190 : TIok Tryz.prog 190 ⟨false, 1, .other, some [.nilFunc], some (.nilFunc, 8)⟩ := ⟨by kernel_rfl, trivial, (zeroOK_of (by kernel_rfl)), (ezOK_of (by kernel_rfl))⟩
theorem ti191 : TIok Tryz.prog 191 ⟨false, 1, .other, some [.nilFunc], some (.nilFunc, 8)⟩ := ⟨by kernel_rfl, trivial, (zeroOK_of (by kernel_rfl)), (ezOK_of (by kernel_rfl))⟩
theorem ti192 : TIok Tryz.prog 192 ⟨false, 1, .other, some [.nilFunc], some (.nilFunc, 8)⟩ := ⟨by kernel_rfl, trivial, (zeroOK_of (by kernel_rfl)), (ezOK_of (by kernel_rfl))⟩
theorem ti193 : TIok Tryz.prog 193 ⟨false, 1, .other, some [.nilFunc], some (.nilFunc, 8)⟩ := ⟨by kernel_rfl, trivial, (zeroOK_of (by kernel_rfl)), (ezOK_of (by kernel_rfl))⟩
theorem ti196 : TIok Tryz.prog 196 ⟨false, 1, .other, some [.nilFunc], some (.nilFunc, 8)⟩ := ⟨by kernel_rfl, trivial, (zeroOK_of (by kernel_rfl)), (ezOK_of (by kernel_rfl))⟩
theorem ti197 : TIok Tryz.prog 197 ⟨false, 1, .other, some [.nilFunc], some (.nilFunc, 8)⟩ := ⟨by kernel_rfl, trivial, (zeroOK_of (by kernel_rfl)), (ezOK_of (by kernel_rfl))⟩
theorem ti198 : TIok Tryz.prog 198 ⟨false, 1, .other, some [.nilFunc], some (.nilFunc, 8)⟩ := ⟨by kernel_rfl, trivial, (zeroOK_of (by kernel_rfl)), (ezOK_of (by kernel_rfl))⟩
theorem ti199 : TIok Tryz.prog 199 ⟨false, 1, .other, some [.nilFunc], some (.nilFunc, 8)⟩ := ⟨by kernel_rfl, trivial, (zeroOK_of (by kernel_rfl)), (ezOK_of (by kernel_rfl))⟩
theorem ti200 : TIok Tryz.prog 200 ⟨false, 1, .other, some [.nilFunc], some (.nilFunc, 8)⟩ := ⟨by kernel_rfl, trivial, (zeroOK_of (by kernel_rfl)), (ezOK_of (by kernel_rfl))⟩
theorem ti201 : TIok Tryz.prog 201 ⟨false, 1, .other, some [.nilFunc], some (.nilFunc, 8)⟩ := ⟨by kernel_rfl, trivial, (zeroOK_of (by kernel_rfl)), (ezOK_of (by kernel_rfl))⟩
theorem ti202 : TIok Tryz.prog 202 ⟨false, 1, .other, some [.nilFunc], some (.nilFunc, 8)⟩ := ⟨by kernel_rfl, trivial, (zeroOK_of (by kernel_rfl)), (ezOK_of (by kernel_rfl))⟩
theorem ti203 : TIok Tryz.prog 203 ⟨false, 1, .other, some [.nilFunc], some (.nilFunc, 8)⟩ := ⟨by kernel_rfl, trivial, (zeroOK_of (by kernel_rfl)), (ezOK_of (by kernel_rfl))⟩
theorem ti204 : TIok Tryz.prog 204 ⟨false, 1, .other, some [.nilFunc], some (.nilFunc, 8)⟩ := ⟨by kernel_rfl, trivial, (zeroOK_of (by kernel_rfl)), (ezOK_of (by kernel_rfl))⟩
theorem ti205 : TIok Tryz.prog 205 ⟨false, 1, .other, some [.nilFunc], some (.nilFunc, 8)⟩ := ⟨by kernel_rfl, trivial, (zeroOK_of (by kernel_rfl)), (ezOK_of (by kernel_rfl))⟩
theorem ti206 : TIok Tryz.prog 206 ⟨false, 1, .other, some [.nilFunc], some (.nilFunc, 8)⟩ := ⟨by kernel_rfl, trivial, (zeroOK_of (by kernel_rfl)), (ezOK_of (by kernel_rfl))⟩
theorem ti207 : TIok Tryz.prog 207 ⟨false, 1, .other, some [.nilFunc], some (.nilFunc, 8)⟩ := ⟨by kernel_rfl, trivial, (zeroOK_of (by kernel_rfl)), (ezOK_of (by kernel_rfl))⟩
theorem ti208 : TIok Tryz.prog 208 ⟨false, 1, .other, some [.nilFunc], some (.nilFunc, 8)⟩ := ⟨by kernel_rfl, trivial, (zeroOK_of (by kernel_rfl)), (ezOK_of (by kernel_rfl))⟩
theorem ti209 : TIok Tryz.prog 209 ⟨false, 1, .other, some [.nilFunc], some (.nilFunc, 8)⟩ := ⟨by kernel_rfl, trivial, (zeroOK_of (by kernel_rfl)), (ezOK_of (by kernel_rfl))⟩
theorem ti210 : TIok Tryz.prog 210 ⟨false, 1, .other, some [.nilFunc], some (.nilFunc, 8)⟩ := ⟨by kernel_rfl, trivial, (zeroOK_of (by kernel_rfl)), (ezOK_of (by kernel_rfl))⟩
theorem ti211 : TIok Tryz.prog 211 ⟨false, 1, .other, some [.nilFunc], some (.nilFunc, 8)⟩ := ⟨by kernel_rfl, trivial, (zeroOK_of (by kernel_rfl)), (ezOK_of (by kernel_rfl))⟩
theorem ti213 : TIok Tryz.prog 213 ⟨false, 1, .other, some [.nilFunc], some (.nilFunc, 8)⟩ := ⟨by kernel_rfl, trivial, (zeroOK_of (by kernel_rfl)), (ezOK_of (by kernel_rfl))⟩
theorem ti215 : TIok Tryz.prog 215 ⟨false, 1, .other, some [.nilFunc], some (.nilFunc, 8)⟩ := ⟨by kernel_rfl, trivial, (zeroOK_of (by kernel_rfl)), (ezOK_of (by kernel_rfl))⟩
theorem ti216 : TIok Tryz.prog 216 ⟨false, 1, .other, some [.nilFunc], some (.nilFunc, 8)⟩ := ⟨by kernel_rfl, trivial, (zeroOK_of (by kernel_rfl)), (ezOK_of (by kernel_rfl))⟩
theorem ti218 : TIok Tryz.prog 218 ⟨false, 1, .other, some [.nilFunc], some (.nilFunc, 8)⟩ := ⟨by kernel_rfl, trivial, (zeroOK_of (by kernel_rfl)), (ezOK_of (by kernel_rfl))⟩
theorem ti219 : TIok Tryz.prog 219 ⟨false, 1, .other, some [.nilFunc], some (.nilFunc, 8)⟩ := ⟨by kernel_rfl, trivial, (zeroOK_of (by kernel_rfl)), (ezOK_of (by kernel_rfl))⟩
theorem ti221 : TIok Tryz.prog 221 ⟨false, 1, .other, some [.nilFunc], some (.nilFunc, 8)⟩ := ⟨by kernel_rfl, trivial, (zeroOK_of (by kernel_rfl)), (ezOK_of (by kernel_rfl))⟩
theorem ti222 : TIok Tryz.prog 222 ⟨false, 1, .other, some [.nilFunc], some (.nilFunc, 8)⟩ := ⟨by kernel_rfl, trivial, (zeroOK_of (by kernel_rfl)), (ezOK_of (by kernel_rfl))⟩
theorem ti224 : TIok Tryz.prog 224 ⟨false, 1, .other, some [.nilFunc], some (.nilFunc, 8)⟩ := ⟨by kernel_rfl, trivial, (zeroOK_of (by kernel_rfl)), (ezOK_of (by kernel_rfl))⟩
theorem ti225 : TIok Tryz.prog 225 ⟨false, 1, .other, some [.nilFunc], some (.nilFunc, 8)⟩ := ⟨by kernel_rfl, trivial, (zeroOK_of (by kernel_rfl)), (ezOK_of (by kernel_rfl))⟩
theorem ti226 : TIok Tryz.prog 226 ⟨false, 1, .other, some [.nilFunc], some (.nilFunc, 8)⟩ := ⟨by kernel_rfl, trivial, (zeroOK_of (by kernel_rfl)), (ezOK_of (by kernel_rfl))⟩
theorem ti227 : TIok Tryz.prog 227 ⟨false, 1, .other, some [.nilFunc], some (.nilFunc, 8)⟩ := ⟨by kernel_rfl, trivial, (zeroOK_of (by kernel_rfl)), (ezOK_of (by kernel_rfl))⟩
theorem ti228 : TIok Tryz.prog 228 ⟨false, 1, .other, some [.nilFunc], some (.nilFunc, 8)⟩ := ⟨by kernel_rfl, trivial, (zeroOK_of (by kernel_rfl)), (ezOK_of (by kernel_rfl))⟩
theorem ti229 : TIok Tryz.prog 229 ⟨false, 1, .other, some [.nilFunc], some (.nilFunc, 8)⟩ := ⟨by kernel_rfl, trivial, (zeroOK_of (by kernel_rfl)), (ezOK_of (by kernel_rfl))⟩
theorem ti230 : TIok Tryz.prog 230 ⟨false, 1, .other, some [.nilFunc], some (.nilFunc, 8)⟩ := ⟨by kernel_rfl, trivial, (zeroOK_of (by kernel_rfl)), (ezOK_of (by kernel_rfl))⟩
theorem ti231 : TIok Tryz.prog 231 ⟨false, 1, .other, some [.nilFunc], some (.nilFunc, 8)⟩ := ⟨by kernel_rfl, trivial, (zeroOK_of (by kernel_rfl)), (ezOK_of (by kernel_rfl))⟩
theorem ti232 : TIok Tryz.prog 232 ⟨false, 1, .other, some [.nilFunc], some (.nilFunc, 8)⟩ := ⟨by kernel_rfl, trivial, (zeroOK_of (by kernel_rfl)), (ezOK_of (by kernel_rfl))⟩
theorem ti234 : TIok Tryz.prog 234 ⟨false, 1, .other, some [.nilFunc], some (.nilFunc, 8)⟩ := ⟨by kernel_rfl, trivial, (zeroOK_of (by kernel_rfl)), (ezOK_of (by kernel_rfl))⟩
theorem ti235 : TIok Tryz.prog 235 ⟨false, 1, .other, some [.nilFunc], some (.nilFunc, 8)⟩ := ⟨by kernel_rfl, trivial, (zeroOK_of (by kernel_rfl)), (ezOK_of (by kernel_rfl))⟩
theorem ti236 : TIok Tryz.prog 236 ⟨false, 1, .other, some [.nilFunc], some (.nilFunc, 8)⟩ := ⟨by kernel_rfl, trivial, (zeroOK_of (by kernel_rfl)), (ezOK_of (by kernel_rfl))⟩
theorem ti237 : TIok Tryz.prog 237 ⟨false, 1, .other, some [.nilFunc], some (.nilFunc, 8)⟩ := ⟨by kernel_rfl, trivial, (zeroOK_of (by kernel_rfl)), (ezOK_of (by kernel_rfl))⟩
theorem ti239 : TIok Tryz.prog 239 ⟨false, 1, .other, some [.nilFunc], some (.nilFunc, 8)⟩ := ⟨by kernel_rfl, trivial, (zeroOK_of (by kernel_rfl)), (ezOK_of (by kernel_rfl))⟩
theorem ti240 : TIok Tryz.prog 240 ⟨false, 1, .other, some [.nilFunc], some (.nilFunc, 8)⟩ := ⟨by kernel_rfl, trivial, (zeroOK_of (by kernel_rfl)), (ezOK_of (by kernel_rfl))⟩
theorem ti241 : TIok Tryz.prog 241 ⟨false, 1, .other, some [.nilFunc], some (.nilFunc, 8)⟩ := ⟨by kernel_rfl, trivial, (zeroOK_of (by kernel_rfl)), (ezOK_of (by kernel_rfl))⟩
theorem ti242 : TIok Tryz.prog 242 ⟨false, 1, .other, some [.nilFunc], some (.nilFunc, 8)⟩ := ⟨by kernel_rfl, trivial, (zeroOK_of (by kernel_rfl)), (ezOK_of (by kernel_rfl))⟩
theorem ti243 : TIok Tryz.prog 243 ⟨false, 1, .other, some [.nilFunc], some (.nilFunc, 8)⟩ := ⟨by kernel_rfl, trivial, (zeroOK_of (by kernel_rfl)), (ezOK_of (by kernel_rfl))⟩
theorem ti248 : TIok Tryz.prog 248 ⟨false, 1, .other, some [.nilFunc], some (.nilFunc, 8)⟩ := ⟨by kernel_rfl, trivial, (zeroOK_of (by kernel_rfl)), (ezOK_of (by kernel_rfl))⟩
theorem ti250 : TIok Tryz.prog 250 ⟨false, 1, .other, some [.nilFunc], some (.nilFunc, 8)⟩ := ⟨by kernel_rfl, trivial, (zeroOK_of (by kernel_rfl)), (ezOK_of (by kernel_rfl))⟩
theorem ti251 : TIok Tryz.prog 251 ⟨false, 1, .other, some [.nilFunc], some (.nilFunc, 8)⟩ := ⟨by kernel_rfl, trivial, (zeroOK_of (by kernel_rfl)), (ezOK_of (by kernel_rfl))⟩
theorem ti253 : TIok Tryz.prog 253 ⟨false, 1, .other, some [.nilFunc], some (.nilFunc, 8)⟩ := ⟨by kernel_rfl, trivial, (zeroOK_of (by kernel_rfl)), (ezOK_of (by kernel_rfl))⟩
theorem ti254 : TIok Tryz.prog 254 ⟨false, 1, .other, some [.nilFunc], some (.nilFunc, 8)⟩ := ⟨by kernel_rfl, trivial, (zeroOK_of (by kernel_rfl)), (ezOK_of (by kernel_rfl))⟩
theorem ti255 : TIok Tryz.prog 255 ⟨false, 1, .other, some [.nilFunc], some (.nilFunc, 8)⟩ := ⟨by kernel_rfl, trivial, (zeroOK_of (by kernel_rfl)), (ezOK_of (by kernel_rfl))⟩
theorem ti257 : TIok Tryz.prog 257 ⟨false, 1, .other, some [.nilFunc], some (.nilFunc, 8)⟩ := ⟨by kernel_rfl, trivial, (zeroOK_of (by kernel_rfl)), (ezOK_of (by kernel_rfl))⟩
theorem ti259 : TIok Tryz.prog 259 ⟨false, 1, .other, some [.nilFunc], some (.nilFunc, 8)⟩ := ⟨by kernel_rfl, trivial, (zeroOK_of (by kernel_rfl)), (ezOK_of (by kernel_rfl))⟩
theorem ti260 : TIok Tryz.prog 260 ⟨false, 1, .other, some [.nilFunc], some (.nilFunc, 8)⟩ := ⟨by kernel_rfl, trivial, (zeroOK_of (by kernel_rfl)), (ezOK_of (by kernel_rfl))⟩
theorem ti261 : TIok Tryz.prog 261 ⟨false, 1, .other, some [.nilFunc], some (.nilFunc, 8)⟩ := ⟨by kernel_rfl, trivial, (zeroOK_of (by kernel_rfl)), (ezOK_of (by kernel_rfl))⟩
theorem ti263 : TIok Tryz.prog 263 ⟨false, 1, .other, some [.nilFunc], some (.nilFunc, 8)⟩ := ⟨by kernel_rfl, trivial, (zeroOK_of (by kernel_rfl)), (ezOK_of (by kernel_rfl))⟩
theorem ti264 : TIok Tryz.prog 264 ⟨false, 1, .other, some [.nilFunc], some (.nilFunc, 8)⟩ := ⟨by kernel_rfl, trivial, (zeroOK_of (by kernel_rfl)), (ezOK_of (by kernel_rfl))⟩
theorem ti265 : TIok Tryz.prog 265 ⟨false, 1, .other, some [.nilFunc], some (.nilFunc, 8)⟩ := ⟨by kernel_rfl, trivial, (zeroOK_of (by kernel_rfl)), (ezOK_of (by kernel_rfl))⟩
theorem ti266 : TIok Tryz.prog 266 ⟨false, 1, .other, some [.nilFunc], some (.nilFunc, 8)⟩ := ⟨by kernel_rfl, trivial, (zeroOK_of (by kernel_rfl)), (ezOK_of (by kernel_rfl))⟩
theorem ti268 : TIok Tryz.prog 268 ⟨false, 1, .other, some [.nilFunc], some (.nilFunc, 8)⟩ := ⟨by kernel_rfl, trivial, (zeroOK_of (by kernel_rfl)), (ezOK_of (by kernel_rfl))⟩
theorem ti269 : TIok Tryz.prog 269 ⟨false, 1, .other, some [.nilFunc], some (.nilFunc, 8)⟩ := ⟨by kernel_rfl, trivial, (zeroOK_of (by kernel_rfl)), (ezOK_of (by kernel_rfl))⟩
theorem ti270 : TIok Tryz.prog 270 ⟨false, 1, .other, some [.nilFunc], some (.nilFunc, 8)⟩ := ⟨by kernel_rfl, trivial, (zeroOK_of (by kernel_rfl)), (ezOK_of (by kernel_rfl))⟩
theorem ti276 : TIok Tryz.prog 276 ⟨false, 1, .other, some [.nilFunc], some (.nilFunc, 8)⟩ := ⟨by kernel_rfl, trivial, (zeroOK_of (by kernel_rfl)), (ezOK_of (by kernel_rfl))⟩
def tabF : TT := (.n none (.n (some ⟨false, 1, .other, some [.nilFunc], some (.nilFunc, 8)⟩) (.n (some ⟨false, 1, .int .i64, some [.int .i64 0], some (.int .i64 0, 8)⟩) (.n none (.n none (.n (some ⟨false, 1, .slice 288 3, some [.slice none 0 0], some (.slice none 0 0, 24)⟩) (.n (some ⟨true, 15, .struct [(0, 1, false), (1, 14, true)] [(0, 1), (1, 14)], some [.int .i64 0, .int .i64 0, .int .i64 0, .int .i64 0, .int .i64 0, .int .i64 0, .int .i64 0, .int .i64 0, .int .i64 0, .string ⟨#[]⟩, .int .i64 0, .int .i64 0, .slice none 0 0, .slice none 0 0, .int .i64 0], some (.agg #[.int .i64 0, .int .i64 0, .int .i64 0, .int .i64 0, .int .i64 0, .int .i64 0, .int .i64 0, .int .i64 0, .int .i64 0, .string ⟨#[]⟩, .int .i64 0, .int .i64 0, .slice none 0 0, .slice none 0 0, .int .i64 0], 160)⟩) (.n (some ⟨false, 1, .other, some [.nilFunc], some (.nilFunc, 8)⟩) (.n (some ⟨false, 1, .other, some [.nilFunc], some (.nilFunc, 8)⟩) .e .e) .e) (.n (some ⟨false, 1, .other, some [.nilFunc], some (.nilFunc, 8)⟩) .e .e)) (.n (some ⟨false, 1, .other, some [.nilFunc], some (.nilFunc, 8)⟩) (.n (some ⟨false, 1, .other, some [.pointer none], some (.pointer none, 8)⟩) (.n (some ⟨true, 3, .struct [(0, 1, false), (1, 1, false), (2, 1, false)] [(0, 1), (1, 1), (2, 1)], some [.int .i64 0, .int .i64 0, .string ⟨#[]⟩], some (.agg #[.int .i64 0, .int .i64 0, .string ⟨#[]⟩], 32)⟩) .e .e) .e) .e)) (.n (some ⟨false, 1, .other, some [.nilFunc], some (.nilFunc, 8)⟩) (.n (some ⟨false, 1, .slice 195 2, some [.slice none 0 0], some (.slice none 0 0, 24)⟩) (.n (some ⟨false, 1, .other, some [.nilFunc], some (.nilFunc, 8)⟩) .e .e) (.n (some ⟨false, 1, .other, some [.nilFunc], some (.nilFunc, 8)⟩) .e .e)) (.n (some ⟨false, 1, .other, some [.nilFunc], some (.nilFunc, 8)⟩) (.n (some ⟨false, 1, .other, some [.nilFunc], some (.nilFunc, 8)⟩) .e .e) (.n (some ⟨false, 1, .other, some [.nilFunc], some (.nilFunc, 8)⟩) .e .e)))) (.n (some ⟨false, 1, .slice 29 2, some [.slice none 0 0], some (.slice none 0 0, 24)⟩) (.n (some ⟨true, 10, .struct [(0, 1, false), (1, 1, false), (2, 1, false), (3, 1, false), (4, 1, false), (5, 1, false), (6, 1, false), (7, 1, false), (8, 1, false), (9, 1, false)] [(0, 1), (1, 1), (2, 1), (3, 1), (4, 1), (5, 1), (6, 1), (7, 1), (8, 1), (9, 1)], some [.int .i64 0, .int .i64 0, .int .i64 0, .int .i64 0, .int .i64 0, .int .i64 0, .int .i64 0, .int .i64 0, .string ⟨#[]⟩, .slice none 0 0], some (.agg #[.int .i64 0, .int .i64 0, .int .i64 0, .int .i64 0, .int .i64 0, .int .i64 0, .int .i64 0, .int .i64 0, .string ⟨#[]⟩, .slice none 0 0], 104)⟩) (.n (some ⟨true, 54, .arr 3 35 18, some [.int .i64 0, .int .i64 0, .int .i64 0, .int .i64 0, .int .i64 0, .int .i64 0, .int .i64 0, .slice none 0 0, .slice none 0 0, .slice none 0 0, .slice none 0 0, .slice none 0 0, .slice none 0 0, .int .i64 0, .int .i64 0, .int .i64 0, .slice none 0 0, .slice none 0 0, .int .i64 0, .int .i64 0, .int .i64 0, .int .i64 0, .int .i64 0, .int .i64 0, .int .i64 0, .slice none 0 0, .slice none 0 0, .slice none 0 0, .slice none 0 0, .slice none 0 0, .slice none 0 0, .int .i64 0, .int .i64 0, .int .i64 0, .slice none 0 0, .slice none 0 0, .int .i64 0, .int .i64 0, .int .i64 0, .int .i64 0, .int .i64 0, .int .i64 0, .int .i64 0, .slice none 0 0, .slice none 0 0, .slice none 0 0, .slice none 0 0, .slice none 0 0, .slice none 0 0, .int .i64 0, .int .i64 0, .int .i64 0, .slice none 0 0, .slice none 0 0], some (.agg #[.int .i64 0, .int .i64 0, .int .i64 0, .int .i64 0, .int .i64 0, .int .i64 0, .int .i64 0, .slice none 0 0, .slice none 0 0, .slice none 0 0, .slice none 0 0, .slice none 0 0, .slice none 0 0, .int .i64 0, .int .i64 0, .int .i64 0, .slice none 0 0, .slice none 0 0, .int .i64 0, .int .i64 0, .int .i64 0, .int .i64 0, .int .i64 0, .int .i64 0, .int .i64 0, .slice none 0 0, .slice none 0 0, .slice none 0 0, .slice none 0 0, .slice none 0 0, .slice none 0 0, .int .i64 0, .int .i64 0, .int .i64 0, .slice none 0 0, .slice none 0 0, .int .i64 0, .int .i64 0, .int .i64 0, .int .i64 0, .int .i64 0, .int .i64 0, .int .i64 0, .slice none 0 0, .slice none 0 0, .slice none 0 0, .slice none 0 0, .slice none 0 0, .slice none 0 0, .int .i64 0, .int .i64 0, .int .i64 0, .slice none 0 0, .slice none 0 0], 816)⟩) (.n (some ⟨false, 1, .other, some [.nilFunc], some (.nilFunc, 8)⟩) (.n (some ⟨false, 1, .other, some [.nilFunc], some (.nilFunc, 8)⟩) .e .e) .e) (.n (some ⟨false, 1, .other, some [.nilFunc], some (.nilFunc, 8)⟩) .e .e)) (.n (some ⟨false, 1, .other, some [.nilFunc], some (.nilFunc, 8)⟩) (.n (some ⟨false, 1, .other, some [.nilFunc], some (.nilFunc, 8)⟩) .e .e) (.n (some ⟨false, 1, .other, some [.nilFunc], some (.nilFunc, 8)⟩) .e .e))) (.n (some ⟨false, 1, .other, some [.nilFunc], some (.nilFunc, 8)⟩) (.n (some ⟨false, 1, .other, some [.nilFunc], some (.nilFunc, 8)⟩) .e (.n (some ⟨false, 1, .other, some [.nilFunc], some (.nilFunc, 8)⟩) .e .e)) (.n (some ⟨true, 18, .struct [(0, 18, true)] [(0, 18)], some [.int .i64 0, .int .i64 0, .int .i64 0, .int .i64 0, .int .i64 0, .int .i64 0, .int .i64 0, .slice none 0 0, .slice none 0 0, .slice none 0 0, .slice none 0 0, .slice none 0 0, .slice none 0 0, .int .i64 0, .int .i64 0, .int .i64 0, .slice none 0 0, .slice none 0 0], some (.agg #[.int .i64 0, .int .i64 0, .int .i64 0, .int .i64 0, .int .i64 0, .int .i64 0, .int .i64 0, .slice none 0 0, .slice none 0 0, .slice none 0 0, .slice none 0 0, .slice none 0 0, .slice none 0 0, .int .i64 0, .int .i64 0, .int .i64 0, .slice none 0 0, .slice none 0 0], 272)⟩) (.n (some ⟨false, 1, .other, some [.nilFunc], some (.nilFunc, 8)⟩) .e .e) (.n (some ⟨true, 2, .struct [(0, 1, false), (1, 1, false)] [(0, 1), (1, 1)], some [.string ⟨#[]⟩, .nilIface], some (.agg #[.string ⟨#[]⟩, .nilIface], 32)⟩) .e .e))))) (.n none (.n none (.n (some ⟨true, 18, .struct [(0, 1, false), (1, 1, false), (2, 1, false), (3, 1, false), (4, 1, false), (5, 1, false), (6, 1, false), (7, 1, false), (8, 1, false), (9, 1, false), (10, 1, false), (11, 1, false), (12, 1, false), (13, 2, true), (15, 1, false), (16, 2, true)] [(0, 1), (1, 1), (2, 1), (3, 1), (4, 1), (5, 1), (6, 1), (7, 1), (8, 1), (9, 1), (10, 1), (11, 1), (12, 1), (13, 2), (15, 1), (16, 2)], some [.int .i64 0, .int .i64 0, .int .i64 0, .int .i64 0, .int .i64 0, .int .i64 0, .int .i64 0, .slice none 0 0, .slice none 0 0, .slice none 0 0, .slice none 0 0, .slice none 0 0, .slice none 0 0, .int .i64 0, .int .i64 0, .int .i64 0, .slice none 0 0, .slice none 0 0], some (.agg #[.int .i64 0, .int .i64 0, .int .i64 0, .int .i64 0, .int .i64 0, .int .i64 0, .int .i64 0, .slice none 0 0, .slice none 0 0, .slice none 0 0, .slice none 0 0, .slice none 0 0, .slice none 0 0, .int .i64 0, .int .i64 0, .int .i64 0, .slice none 0 0, .slice none 0 0], 272)⟩) (.n none (.n (some ⟨false, 1, .other, some [.nilFunc], some (.nilFunc, 8)⟩) (.n (some ⟨false, 1, .other, some [.nilFunc], some (.nilFunc, 8)⟩) .e .e) .e) (.n (some ⟨true, 2, .struct [(0, 1, false), (1, 1, false)] [(0, 1), (1, 1)], some [.int .i64 0, .int .i64 0], some (.agg #[.int .i64 0, .int .i64 0], 16)⟩) .e .e)) (.n (some ⟨false, 1, .other, some [.nilFunc], some (.nilFunc, 8)⟩) (.n (some ⟨true, 21, .struct [(0, 10, true), (10, 10, true), (20, 1, false)] [(0, 10), (10, 10), (20, 1)], some [.int .i64 0, .int .i64 0, .int .i64 0, .int .i64 0, .int .i64 0, .int .i64 0, .int .i64 0, .int .i64 0, .string ⟨#[]⟩, .slice none 0 0, .int .i64 0, .int .i64 0, .int .i64 0, .int .i64 0, .int .i64 0, .int .i64 0, .int .i64 0, .int .i64 0, .string ⟨#[]⟩, .slice none 0 0, .int .i64 0], some (.agg #[.int .i64 0, .int .i64 0, .int .i64 0, .int .i64 0, .int .i64 0, .int .i64 0, .int .i64 0, .int .i64 0, .string ⟨#[]⟩, .slice none 0 0, .int .i64 0, .int .i64 0, .int .i64 0, .int .i64 0, .int .i64 0, .int .i64 0, .int .i64 0, .int .i64 0, .string ⟨#[]⟩, .slice none 0 0, .int .i64 0], 216)⟩) .e .e) (.n (some ⟨false, 1, .other, some [.nilFunc], some (.nilFunc, 8)⟩) .e .e))) (.n (some ⟨false, 1, .other, some [.nilFunc], some (.nilFunc, 8)⟩) (.n (some ⟨false, 1, .other, some [.nilFunc], some (.nilFunc, 8)⟩) (.n (some ⟨false, 1, .other, some [.nilFunc], some (.nilFunc, 8)⟩) .e .e) (.n (some ⟨false, 1, .other, some [.nilFunc], some (.nilFunc, 8)⟩) .e .e)) (.n (some ⟨false, 1, .other, some [.nilFunc], some (.nilFunc, 8)⟩) (.n (some ⟨false, 1, .other, some [.nilFunc], some (.nilFunc, 8)⟩) .e .e) (.n (some ⟨false, 1, .other, some [.nilFunc], some (.nilFunc, 8)⟩) .e .e)))) (.n (some ⟨false, 1, .slice 79 1, some [.slice none 0 0], some (.slice none 0 0, 24)⟩) (.n (some ⟨false, 1, .other, some [.nilFunc], some (.nilFunc, 8)⟩) (.n (some ⟨true, 2, .arr 2 3 1, some [.int .i64 0, .int .i64 0], some (.agg #[.int .i64 0, .int .i64 0], 16)⟩) (.n none (.n (some ⟨true, 6, .arr 6 3 1, some [.int .i64 0, .int .i64 0, .int .i64 0, .int .i64 0, .int .i64 0, .int .i64 0], some (.agg #[.int .i64 0, .int .i64 0, .int .i64 0, .int .i64 0, .int .i64 0, .int .i64 0], 48)⟩) .e .e) .e) (.n (some ⟨false, 1, .other, some [.nilFunc], some (.nilFunc, 8)⟩) .e .e)) (.n (some ⟨false, 1, .other, some [.nilFunc], some (.nilFunc, 8)⟩) (.n (some ⟨false, 1, .other, some [.nilFunc], some (.nilFunc, 8)⟩) .e .e) (.n (some ⟨false, 1, .other, some [.nilFunc], some (.nilFunc, 8)⟩) .e .e))) (.n (some ⟨false, 1, .other, some [.nilFunc], some (.nilFunc, 8)⟩) (.n (some ⟨false, 1, .other, some [.nilFunc], some (.nilFunc, 8)⟩) (.n (some ⟨false, 1, .other, some [.nilFunc], some (.nilFunc, 8)⟩) .e .e) (.n (some ⟨false, 1, .other, some [.nilFunc], some (.nilFunc, 8)⟩) .e .e)) (.n (some ⟨false, 1, .other, some [.nilIface], some (.nilIface, 16)⟩) (.n (some ⟨false, 1, .other, some [.nilFunc], some (.nilFunc, 8)⟩) .e .e) (.n (some ⟨false, 1, .other, some [.nilFunc], some (.nilFunc, 8)⟩) .e .e)))))) (.n (some ⟨false, 1, .int .u8, some [.int .u8 0], some (.int .u8 0, 1)⟩) (.n (some ⟨false, 1, .str, some [.string ⟨#[]⟩], some (.string ⟨#[]⟩, 16)⟩) (.n none (.n (some ⟨true, 2, .struct [(0, 1, false), (1, 1, false)] [(0, 1), (1, 1)], some [.slice none 0 0, .slice none 0 0], some (.agg #[.slice none 0 0, .slice none 0 0], 48)⟩) (.n (some ⟨false, 1, .other, some [.nilFunc], some (.nilFunc, 8)⟩) (.n (some ⟨false, 1, .other, some [.nilFunc], some (.nilFunc, 8)⟩) (.n (some ⟨false, 1, .other, some [.nilFunc], some (.nilFunc, 8)⟩) .e .e) .e) (.n (some ⟨false, 1, .other, some [.nilFunc], some (.nilFunc, 8)⟩) .e .e)) (.n (some ⟨false, 1, .other, some [.nilFunc], some (.nilFunc, 8)⟩) (.n (some ⟨false, 1, .other, some [.nilFunc], some (.nilFunc, 8)⟩) .e .e) (.n (some ⟨false, 1, .other, some [.nilFunc], some (.nilFunc, 8)⟩) .e .e))) (.n (some ⟨false, 1, .other, some [.nilFunc], some (.nilFunc, 8)⟩) (.n (some ⟨true, 3, .struct [(0, 1, false), (1, 1, false), (2, 1, false)] [(0, 1), (1, 1), (2, 1)], some [.int .i64 0, .slice none 0 0, .slice none 0 0], some (.agg #[.int .i64 0, .slice none 0 0, .slice none 0 0], 56)⟩) .e (.n (some ⟨false, 1, .other, some [.nilFunc], some (.nilFunc, 8)⟩) .e .e)) (.n none (.n (some ⟨true, 3, .struct [(0, 1, false), (1, 1, false), (2, 1, false)] [(0, 1), (1, 1), (2, 1)], some [.int .i64 0, .int .i64 0, .int .i64 0], some (.agg #[.int .i64 0, .int .i64 0, .int .i64 0], 24)⟩) .e .e) (.n (some ⟨false, 1, .other, some [.nilFunc], some (.nilFunc, 8)⟩) .e .e)))) (.n (some ⟨false, 1, .slice 26 1, some [.slice none 0 0], some (.slice none 0 0, 24)⟩) (.n (some ⟨false, 1, .other, some [.nilFunc], some (.nilFunc, 8)⟩) (.n (some ⟨false, 1, .other, some [.map none], some (.map none, 8)⟩) (.n (some ⟨true, 32, .struct [(0, 18, true), (18, 14, true)] [(0, 18), (18, 14)], some [.int .i64 0, .int .i64 0, .int .i64 0, .int .i64 0, .int .i64 0, .int .i64 0, .int .i64 0, .slice none 0 0, .slice none 0 0, .slice none 0 0, .slice none 0 0, .slice none 0 0, .slice none 0 0, .int .i64 0, .int .i64 0, .int .i64 0, .slice none 0 0, .slice none 0 0, .int .i64 0, .int .i64 0, .int .i64 0, .int .i64 0, .int .i64 0, .int .i64 0, .int .i64 0, .int .i64 0, .string ⟨#[]⟩, .int .i64 0, .int .i64 0, .slice none 0 0, .slice none 0 0, .int .i64 0], some (.agg #[.int .i64 0, .int .i64 0, .int .i64 0, .int .i64 0, .int .i64 0, .int .i64 0, .int .i64 0, .slice none 0 0, .slice none 0 0, .slice none 0 0, .slice none 0 0, .slice none 0 0, .slice none 0 0, .int .i64 0, .int .i64 0, .int .i64 0, .slice none 0 0, .slice none 0 0, .int .i64 0, .int .i64 0, .int .i64 0, .int .i64 0, .int .i64 0, .int .i64 0, .int .i64 0, .int .i64 0, .string ⟨#[]⟩, .int .i64 0, .int .i64 0, .slice none 0 0, .slice none 0 0, .int .i64 0], 424)⟩) (.n (some ⟨false, 1, .other, some [.nilFunc], some (.nilFunc, 8)⟩) .e .e) .e) (.n (some ⟨false, 1, .other, some [.nilFunc], some (.nilFunc, 8)⟩) .e .e)) (.n (some ⟨false, 1, .other, some [.nilFunc], some (.nilFunc, 8)⟩) (.n (some ⟨false, 1, .other, some [.nilFunc], some (.nilFunc, 8)⟩) .e .e) (.n (some ⟨true, 10, .arr 10 4 1, some [.bool false, .bool false, .bool false, .bool false, .bool false, .bool false, .bool false, .bool false, .bool false, .bool false], some (.agg #[.bool false, .bool false, .bool false, .bool false, .bool false, .bool false, .bool false, .bool false, .bool false, .bool false], 10)⟩) .e .e))) (.n none (.n (some ⟨true, 32, .struct [(0, 18, true), (18, 14, true)] [(0, 18), (18, 14)], some [.int .i64 0, .int .i64 0, .int .i64 0, .int .i64 0, .int .i64 0, .int .i64 0, .int .i64 0, .slice none 0 0, .slice none 0 0, .slice none 0 0, .slice none 0 0, .slice none 0 0, .slice none 0 0, .int .i64 0, .int .i64 0, .int .i64 0, .slice none 0 0, .slice none 0 0, .int .i64 0, .int .i64 0, .int .i64 0, .int .i64 0, .int .i64 0, .int .i64 0, .int .i64 0, .int .i64 0, .string ⟨#[]⟩, .int .i64 0, .int .i64 0, .slice none 0 0, .slice none 0 0, .int .i64 0], some (.agg #[.int .i64 0, .int .i64 0, .int .i64 0, .int .i64 0, .int .i64 0, .int .i64 0, .int .i64 0, .slice none 0 0, .slice none 0 0, .slice none 0 0, .slice none 0 0, .slice none 0 0, .slice none 0 0, .int .i64 0, .int .i64 0, .int .i64 0, .slice none 0 0, .slice none 0 0, .int .i64 0, .int .i64 0, .int .i64 0, .int .i64 0, .int .i64 0, .int .i64 0, .int .i64 0, .int .i64 0, .string ⟨#[]⟩, .int .i64 0, .int .i64 0, .slice none 0 0, .slice none 0 0, .int .i64 0], 424)⟩) .e .e) (.n (some ⟨false, 1, .slice 44 1, some [.slice none 0 0], some (.slice none 0 0, 24)⟩) (.n (some ⟨false, 1, .other, some [.nilFunc], some (.nilFunc, 8)⟩) .e .e) (.n (some ⟨true, 6, .struct [(0, 1, false), (1, 1, false), (2, 1, false), (3, 1, false), (4, 1, false), (5, 1, false)] [(0, 1), (1, 1), (2, 1), (3, 1), (4, 1), (5, 1)], some [.int .i64 0, .int .i64 0, .int .i64 0, .int .i64 0, .int .i64 0, .int .i64 0], some (.agg #[.int .i64 0, .int .i64 0, .int .i64 0, .int .i64 0, .int .i64 0, .int .i64 0], 48)⟩) .e .e))))) (.n (some ⟨true, 2, .struct [(0, 1, false), (1, 1, false)] [(0, 1), (1, 1)], some [.string ⟨#[]⟩, .int .u64 0], some (.agg #[.string ⟨#[]⟩, .int .u64 0], 24)⟩) (.n (some ⟨false, 1, .int .i32, some [.int .i32 0], some (.int .i32 0, 4)⟩) (.n (some ⟨true, 14, .struct [(0, 1, false), (1, 1, false), (2, 1, false), (3, 1, false), (4, 1, false), (5, 1, false), (6, 1, false), (7, 1, false), (8, 1, false), (9, 1, false), (10, 1, false), (11, 1, false), (12, 1, false), (13, 1, false)] [(0, 1), (1, 1), (2, 1), (3, 1), (4, 1), (5, 1), (6, 1), (7, 1), (8, 1), (9, 1), (10, 1), (11, 1), (12, 1), (13, 1)], some [.int .i64 0, .int .i64 0, .int .i64 0, .int .i64 0, .int .i64 0, .int .i64 0, .int .i64 0, .int .i64 0, .string ⟨#[]⟩, .int .i64 0, .int .i64 0, .slice none 0 0, .slice none 0 0, .int .i64 0], some (.agg #[.int .i64 0, .int .i64 0, .int .i64 0, .int .i64 0, .int .i64 0, .int .i64 0, .int .i64 0, .int .i64 0, .string ⟨#[]⟩, .int .i64 0, .int .i64 0, .slice none 0 0, .slice none 0 0, .int .i64 0], 152)⟩) (.n (some ⟨false, 1, .other, some [.nilFunc], some (.nilFunc, 8)⟩) (.n none (.n (some ⟨false, 1, .other, some [.nilFunc], some (.nilFunc, 8)⟩) .e .e) .e) (.n (some ⟨false, 1, .other, some [.nilFunc], some (.nilFunc, 8)⟩) .e .e)) (.n none (.n (some ⟨false, 1, .other, some [.nilFunc], some (.nilFunc, 8)⟩) .e .e) (.n (some ⟨false, 1, .other, some [.nilFunc], some (.nilFunc, 8)⟩) .e .e))) (.n (some ⟨false, 1, .other, some [.nilFunc], some (.nilFunc, 8)⟩) (.n (some ⟨true, 6, .struct [(0, 1, false), (1, 1, false), (2, 1, false), (3, 1, false), (4, 1, false), (5, 1, false)] [(0, 1), (1, 1), (2, 1), (3, 1), (4, 1), (5, 1)], some [.int .i64 0, .int .i64 0, .int .i64 0, .int .i64 0, .int .i64 0, .int .i64 0], some (.agg #[.int .i64 0, .int .i64 0, .int .i64 0, .int .i64 0, .int .i64 0, .int .i64 0], 48)⟩) (.n (some ⟨false, 1, .other, some [.nilFunc], some (.nilFunc, 8)⟩) .e .e) (.n (some ⟨false, 1, .other, some [.nilFunc], some (.nilFunc, 8)⟩) .e .e)) (.n (some ⟨false, 1, .other, some [.nilFunc], some (.nilFunc, 8)⟩) (.n (some ⟨false, 1, .other, some [.nilFunc], some (.nilFunc, 8)⟩) .e .e) (.n (some ⟨false, 1, .other, some [.pointer none], some (.pointer none, 8)⟩) .e .e)))) (.n (some ⟨true, 2, .struct [(0, 1, false), (1, 1, false)] [(0, 1), (1, 1)], some [.int .i64 0, .int .i64 0], some (.agg #[.int .i64 0, .int .i64 0], 16)⟩) (.n (some ⟨false, 1, .slice 63 15, some [.slice none 0 0], some (.slice none 0 0, 24)⟩) (.n (some ⟨false, 1, .other, some [.nilFunc], some (.nilFunc, 8)⟩) (.n (some ⟨false, 1, .other, some [.nilFunc], some (.nilFunc, 8)⟩) (.n (some ⟨false, 1, .other, some [.nilFunc], some (.nilFunc, 8)⟩) .e .e) .e) (.n (some ⟨false, 1, .other, some [.nilFunc], some (.nilFunc, 8)⟩) .e .e)) (.n (some ⟨false, 1, .other, some [.nilFunc], some (.nilFunc, 8)⟩) (.n (some ⟨false, 1, .other, some [.nilFunc], some (.nilFunc, 8)⟩) .e .e) (.n (some ⟨false, 1, .other, some [.nilFunc], some (.nilFunc, 8)⟩) .e .e))) (.n (some ⟨false, 1, .other, some [.nilFunc], some (.nilFunc, 8)⟩) (.n (some ⟨false, 1, .other, some [.nilFunc], some (.nilFunc, 8)⟩) (.n (some ⟨false, 1, .other, some [.nilFunc], some (.nilFunc, 8)⟩) (.n (some ⟨true, 4, .struct [(0, 1, false), (1, 1, false), (2, 1, false), (3, 1, false)] [(0, 1), (1, 1), (2, 1), (3, 1)], some [.int .i64 0, .int .i64 0, .int .i64 0, .int .i64 0], some (.agg #[.int .i64 0, .int .i64 0, .int .i64 0, .int .i64 0], 32)⟩) .e .e) .e) (.n (some ⟨false, 1, .other, some [.nilFunc], some (.nilFunc, 8)⟩) .e .e)) (.n (some ⟨false, 1, .other, some [.nilFunc], some (.nilFunc, 8)⟩) (.n (some ⟨false, 1, .other, some [.nilFunc], some (.nilFunc, 8)⟩) .e .e) (.n (some ⟨false, 1, .other, some [.nilFunc], some (.nilFunc, 8)⟩) .e .e))))))) (.n (some ⟨false, 1, .int .i64, some [.int .i64 0], some (.int .i64 0, 8)⟩) (.n (some ⟨false, 1, .bool, some [.bool false], some (.bool false, 1)⟩) (.n none (.n none (.n (some ⟨true, 2, .struct [(0, 1, false), (1, 1, false)] [(0, 1), (1, 1)], some [.slice none 0 0, .slice none 0 0], some (.agg #[.slice none 0 0, .slice none 0 0], 48)⟩) (.n (some ⟨false, 1, .other, some [.nilFunc], some (.nilFunc, 8)⟩) (.n (some ⟨false, 1, .int .u64, some [.int .u64 0], some (.int .u64 0, 8)⟩) (.n (some ⟨false, 1, .slice 258 3, some [.slice none 0 0], some (.slice none 0 0, 24)⟩) .e .e) .e) (.n (some ⟨false, 1, .other, some [.nilFunc], some (.nilFunc, 8)⟩) .e .e)) (.n none (.n (some ⟨false, 1, .other, some [.pointer none], some (.pointer none, 8)⟩) (.n (some ⟨true, 3, .struct [(0, 1, false), (1, 1, false), (2, 1, false)] [(0, 1), (1, 1), (2, 1)], some [.int .i64 0, .int .i64 0, .string ⟨#[]⟩], some (.agg #[.int .i64 0, .int .i64 0, .string ⟨#[]⟩], 32)⟩) .e .e) .e) (.n (some ⟨false, 1, .other, some [.nilFunc], some (.nilFunc, 8)⟩) .e .e))) (.n (some ⟨false, 1, .other, some [.nilFunc], some (.nilFunc, 8)⟩) (.n (some ⟨true, 3, .struct [(0, 1, false), (1, 1, false), (2, 1, false)] [(0, 1), (1, 1), (2, 1)], some [.int .i64 0, .slice none 0 0, .slice none 0 0], some (.agg #[.int .i64 0, .slice none 0 0, .slice none 0 0], 56)⟩) (.n (some ⟨false, 1, .other, some [.nilFunc], some (.nilFunc, 8)⟩) .e .e) (.n (some ⟨false, 1, .other, some [.nilFunc], some (.nilFunc, 8)⟩) .e .e)) (.n (some ⟨false, 1, .other, some [.nilFunc], some (.nilFunc, 8)⟩) (.n (some ⟨false, 1, .other, some [.nilFunc], some (.nilFunc, 8)⟩) .e .e) (.n (some ⟨false, 1, .other, some [.nilFunc], some (.nilFunc, 8)⟩) .e .e)))) (.n (some ⟨false, 1, .slice 81 3, some [.slice none 0 0], some (.slice none 0 0, 24)⟩) (.n (some ⟨true, 10, .struct [(0, 1, false), (1, 1, false), (2, 1, false), (3, 1, false), (4, 1, false), (5, 1, false), (6, 1, false), (7, 1, false), (8, 1, false), (9, 1, false)] [(0, 1), (1, 1), (2, 1), (3, 1), (4, 1), (5, 1), (6, 1), (7, 1), (8, 1), (9, 1)], some [.int .i64 0, .int .i64 0, .int .i64 0, .int .i64 0, .int .i64 0, .int .i64 0, .int .i64 0, .int .i64 0, .string ⟨#[]⟩, .slice none 0 0], some (.agg #[.int .i64 0, .int .i64 0, .int .i64 0, .int .i64 0, .int .i64 0, .int .i64 0, .int .i64 0, .int .i64 0, .string ⟨#[]⟩, .slice none 0 0], 104)⟩) (.n (some ⟨true, 3, .arr 3 45 1, some [.slice none 0 0, .slice none 0 0, .slice none 0 0], some (.agg #[.slice none 0 0, .slice none 0 0, .slice none 0 0], 72)⟩) (.n (some ⟨false, 1, .other, some [.nilFunc], some (.nilFunc, 8)⟩) (.n (some ⟨false, 1, .other, some [.nilFunc], some (.nilFunc, 8)⟩) .e .e) .e) (.n (some ⟨false, 1, .other, some [.nilFunc], some (.nilFunc, 8)⟩) .e .e)) (.n (some ⟨false, 1, .other, some [.nilFunc], some (.nilFunc, 8)⟩) (.n (some ⟨false, 1, .other, some [.nilFunc], some (.nilFunc, 8)⟩) .e .e) (.n (some ⟨false, 1, .other, some [.nilFunc], some (.nilFunc, 8)⟩) .e .e))) (.n (some ⟨false, 1, .slice 37 14, some [.slice none 0 0], some (.slice none 0 0, 24)⟩) (.n (some ⟨false, 1, .other, some [.nilFunc], some (.nilFunc, 8)⟩) (.n (some ⟨false, 1, .other, some [.nilFunc], some (.nilFunc, 8)⟩) (.n (some ⟨false, 1, .other, some [.pointer none], some (.pointer none, 8)⟩) .e .e) .e) (.n (some ⟨false, 1, .other, some [.nilFunc], some (.nilFunc, 8)⟩) .e .e)) (.n (some ⟨true, 18, .struct [(0, 18, true)] [(0, 18)], some [.int .i64 0, .int .i64 0, .int .i64 0, .int .i64 0, .int .i64 0, .int .i64 0, .int .i64 0, .slice none 0 0, .slice none 0 0, .slice none 0 0, .slice none 0 0, .slice none 0 0, .slice none 0 0, .int .i64 0, .int .i64 0, .int .i64 0, .slice none 0 0, .slice none 0 0], some (.agg #[.int .i64 0, .int .i64 0, .int .i64 0, .int .i64 0, .int .i64 0, .int .i64 0, .int .i64 0, .slice none 0 0, .slice none 0 0, .slice none 0 0, .slice none 0 0, .slice none 0 0, .slice none 0 0, .int .i64 0, .int .i64 0, .int .i64 0, .slice none 0 0, .slice none 0 0], 272)⟩) (.n (some ⟨true, 18, .struct [(0, 18, true)] [(0, 18)], some [.int .i64 0, .int .i64 0, .int .i64 0, .int .i64 0, .int .i64 0, .int .i64 0, .int .i64 0, .slice none 0 0, .slice none 0 0, .slice none 0 0, .slice none 0 0, .slice none 0 0, .slice none 0 0, .int .i64 0, .int .i64 0, .int .i64 0, .slice none 0 0, .slice none 0 0], some (.agg #[.int .i64 0, .int .i64 0, .int .i64 0, .int .i64 0, .int .i64 0, .int .i64 0, .int .i64 0, .slice none 0 0, .slice none 0 0, .slice none 0 0, .slice none 0 0, .slice none 0 0, .slice none 0 0, .int .i64 0, .int .i64 0, .int .i64 0, .slice none 0 0, .slice none 0 0], 272)⟩) .e .e) (.n (some ⟨false, 1, .other, some [.nilFunc], some (.nilFunc, 8)⟩) .e .e))))) (.n (some ⟨false, 1, .int .u64, some [.int .u64 0], some (.int .u64 0, 8)⟩) (.n (some ⟨false, 1, .other, some [.nilIface], some (.nilIface, 16)⟩) (.n (some ⟨true, 14, .struct [(0, 1, false), (1, 1, false), (2, 1, false), (3, 1, false), (4, 1, false), (5, 1, false), (6, 1, false), (7, 1, false), (8, 1, false), (9, 1, false), (10, 1, false), (11, 1, false), (12, 1, false), (13, 1, false)] [(0, 1), (1, 1), (2, 1), (3, 1), (4, 1), (5, 1), (6, 1), (7, 1), (8, 1), (9, 1), (10, 1), (11, 1), (12, 1), (13, 1)], some [.int .i64 0, .int .i64 0, .int .i64 0, .int .i64 0, .int .i64 0, .int .i64 0, .int .i64 0, .int .i64 0, .string ⟨#[]⟩, .int .i64 0, .int .i64 0, .slice none 0 0, .slice none 0 0, .int .i64 0], some (.agg #[.int .i64 0, .int .i64 0, .int .i64 0, .int .i64 0, .int .i64 0, .int .i64 0, .int .i64 0, .int .i64 0, .string ⟨#[]⟩, .int .i64 0, .int .i64 0, .slice none 0 0, .slice none 0 0, .int .i64 0], 152)⟩) (.n (some ⟨false, 1, .other, some [.nilFunc], some (.nilFunc, 8)⟩) (.n (some ⟨false, 1, .other, some [.nilFunc], some (.nilFunc, 8)⟩) (.n (some ⟨false, 1, .other, some [.nilFunc], some (.nilFunc, 8)⟩) .e .e) .e) (.n (some ⟨false, 1, .other, some [.nilFunc], some (.nilFunc, 8)⟩) .e .e)) (.n (some ⟨false, 1, .other, some [.nilFunc], some (.nilFunc, 8)⟩) (.n (some ⟨false, 1, .other, some [.nilFunc], some (.nilFunc, 8)⟩) .e .e) (.n (some ⟨false, 1, .other, some [.nilFunc], some (.nilFunc, 8)⟩) .e .e))) (.n (some ⟨false, 1, .int .i64, some [.int .i64 0], some (.int .i64 0, 8)⟩) (.n (some ⟨false, 1, .other, some [.nilFunc], some (.nilFunc, 8)⟩) (.n none (.n (some ⟨false, 1, .other, some [.nilFunc], some (.nilFunc, 8)⟩) .e .e) .e) (.n (some ⟨false, 1, .int .u32, some [.int .u32 0], some (.int .u32 0, 4)⟩) .e .e)) (.n (some ⟨false, 1, .other, some [.nilFunc], some (.nilFunc, 8)⟩) (.n (some ⟨false, 1, .other, some [.nilFunc], some (.nilFunc, 8)⟩) .e .e) (.n (some ⟨true, 11, .arr 11 9 1, some [.string ⟨#[]⟩, .string ⟨#[]⟩, .string ⟨#[]⟩, .string ⟨#[]⟩, .string ⟨#[]⟩, .string ⟨#[]⟩, .string ⟨#[]⟩, .string ⟨#[]⟩, .string ⟨#[]⟩, .string ⟨#[]⟩, .string ⟨#[]⟩], some (.agg #[.string ⟨#[]⟩, .string ⟨#[]⟩, .string ⟨#[]⟩, .string ⟨#[]⟩, .string ⟨#[]⟩, .string ⟨#[]⟩, .string ⟨#[]⟩, .string ⟨#[]⟩, .string ⟨#[]⟩, .string ⟨#[]⟩, .string ⟨#[]⟩], 176)⟩) .e .e)))) (.n (some ⟨true, 2, .struct [(0, 1, false), (1, 1, false)] [(0, 1), (1, 1)], some [.int .i64 0, .int .i64 0], some (.agg #[.int .i64 0, .int .i64 0], 16)⟩) (.n (some ⟨false, 1, .other, some [.nilFunc], some (.nilFunc, 8)⟩) (.n (some ⟨false, 1, .other, some [.nilFunc], some (.nilFunc, 8)⟩) (.n (some ⟨false, 1, .other, some [.nilFunc], some (.nilFunc, 8)⟩) (.n (some ⟨false, 1, .other, some [.nilFunc], some (.nilFunc, 8)⟩) .e .e) .e) (.n (some ⟨false, 1, .other, some [.nilFunc], some (.nilFunc, 8)⟩) .e .e)) (.n (some ⟨false, 1, .other, some [.nilFunc], some (.nilFunc, 8)⟩) .e (.n (some ⟨false, 1, .other, some [.nilFunc], some (.nilFunc, 8)⟩) .e .e))) (.n (some ⟨false, 1, .other, some [.nilFunc], some (.nilFunc, 8)⟩) (.n (some ⟨false, 1, .other, some [.nilFunc], some (.nilFunc, 8)⟩) (.n (some ⟨false, 1, .other, some [.pointer none], some (.pointer none, 8)⟩) .e .e) .e) (.n (some ⟨false, 1, .other, some [.nilFunc], some (.nilFunc, 8)⟩) (.n (some ⟨false, 1, .other, some [.nilFunc], some (.nilFunc, 8)⟩) .e .e) .e))))) (.n none (.n none (.n none (.n (some ⟨true, 18, .struct [(0, 1, false), (1, 1, false), (2, 1, false), (3, 1, false), (4, 1, false), (5, 1, false), (6, 1, false), (7, 1, false), (8, 1, false), (9, 1, false), (10, 1, false), (11, 1, false), (12, 1, false), (13, 2, true), (15, 1, false), (16, 2, true)] [(0, 1), (1, 1), (2, 1), (3, 1), (4, 1), (5, 1), (6, 1), (7, 1), (8, 1), (9, 1), (10, 1), (11, 1), (12, 1), (13, 2), (15, 1), (16, 2)], some [.int .i64 0, .int .i64 0, .int .i64 0, .int .i64 0, .int .i64 0, .int .i64 0, .int .i64 0, .slice none 0 0, .slice none 0 0, .slice none 0 0, .slice none 0 0, .slice none 0 0, .slice none 0 0, .int .i64 0, .int .i64 0, .int .i64 0, .slice none 0 0, .slice none 0 0], some (.agg #[.int .i64 0, .int .i64 0, .int .i64 0, .int .i64 0, .int .i64 0, .int .i64 0, .int .i64 0, .slice none 0 0, .slice none 0 0, .slice none 0 0, .slice none 0 0, .slice none 0 0, .slice none 0 0, .int .i64 0, .int .i64 0, .int .i64 0, .slice none 0 0, .slice none 0 0], 272)⟩) (.n (some ⟨false, 1, .other, some [.nilFunc], some (.nilFunc, 8)⟩) (.n none (.n (some ⟨true, 3, .arr 3 3 1, some [.int .i64 0, .int .i64 0, .int .i64 0], some (.agg #[.int .i64 0, .int .i64 0, .int .i64 0], 24)⟩) .e .e) .e) (.n (some ⟨true, 2, .struct [(0, 1, false), (1, 1, false)] [(0, 1), (1, 1)], some [.int .i64 0, .int .i64 0], some (.agg #[.int .i64 0, .int .i64 0], 16)⟩) .e .e)) (.n (some ⟨false, 1, .other, some [.nilFunc], some (.nilFunc, 8)⟩) (.n (some ⟨true, 21, .struct [(0, 10, true), (10, 10, true), (20, 1, false)] [(0, 10), (10, 10), (20, 1)], some [.int .i64 0, .int .i64 0, .int .i64 0, .int .i64 0, .int .i64 0, .int .i64 0, .int .i64 0, .int .i64 0, .string ⟨#[]⟩, .slice none 0 0, .int .i64 0, .int .i64 0, .int .i64 0, .int .i64 0, .int .i64 0, .int .i64 0, .int .i64 0, .int .i64 0, .string ⟨#[]⟩, .slice none 0 0, .int .i64 0], some (.agg #[.int .i64 0, .int .i64 0, .int .i64 0, .int .i64 0, .int .i64 0, .int .i64 0, .int .i64 0, .int .i64 0, .string ⟨#[]⟩, .slice none 0 0, .int .i64 0, .int .i64 0, .int .i64 0, .int .i64 0, .int .i64 0, .int .i64 0, .int .i64 0, .int .i64 0, .string ⟨#[]⟩, .slice none 0 0, .int .i64 0], 216)⟩) .e .e) (.n (some ⟨false, 1, .other, some [.nilFunc], some (.nilFunc, 8)⟩) .e .e))) (.n (some ⟨false, 1, .other, some [.nilFunc], some (.nilFunc, 8)⟩) (.n none (.n (some ⟨false, 1, .other, some [.nilFunc], some (.nilFunc, 8)⟩) .e .e) (.n (some ⟨false, 1, .other, some [.nilFunc], some (.nilFunc, 8)⟩) .e .e)) (.n (some ⟨false, 1, .other, some [.nilFunc], some (.nilFunc, 8)⟩) (.n (some ⟨true, 3, .struct [(0, 1, false), (1, 1, false), (2, 1, false)] [(0, 1), (1, 1), (2, 1)], some [.int .i64 0, .int .i64 0, .int .i64 0], some (.agg #[.int .i64 0, .int .i64 0, .int .i64 0], 24)⟩) .e .e) (.n (some ⟨false, 1, .other, some [.nilFunc], some (.nilFunc, 8)⟩) .e .e)))) (.n (some ⟨false, 1, .slice 3 1, some [.slice none 0 0], some (.slice none 0 0, 24)⟩) (.n (some ⟨false, 1, .other, some [.nilFunc], some (.nilFunc, 8)⟩) (.n (some ⟨false, 1, .other, some [.map none], some (.map none, 8)⟩) (.n (some ⟨true, 32, .struct [(0, 18, true), (18, 14, true)] [(0, 18), (18, 14)], some [.int .i64 0, .int .i64 0, .int .i64 0, .int .i64 0, .int .i64 0, .int .i64 0, .int .i64 0, .slice none 0 0, .slice none 0 0, .slice none 0 0, .slice none 0 0, .slice none 0 0, .slice none 0 0, .int .i64 0, .int .i64 0, .int .i64 0, .slice none 0 0, .slice none 0 0, .int .i64 0, .int .i64 0, .int .i64 0, .int .i64 0, .int .i64 0, .int .i64 0, .int .i64 0, .int .i64 0, .string ⟨#[]⟩, .int .i64 0, .int .i64 0, .slice none 0 0, .slice none 0 0, .int .i64 0], some (.agg #[.int .i64 0, .int .i64 0, .int .i64 0, .int .i64 0, .int .i64 0, .int .i64 0, .int .i64 0, .slice none 0 0, .slice none 0 0, .slice none 0 0, .slice none 0 0, .slice none 0 0, .slice none 0 0, .int .i64 0, .int .i64 0, .int .i64 0, .slice none 0 0, .slice none 0 0, .int .i64 0, .int .i64 0, .int .i64 0, .int .i64 0, .int .i64 0, .int .i64 0, .int .i64 0, .int .i64 0, .string ⟨#[]⟩, .int .i64 0, .int .i64 0, .slice none 0 0, .slice none 0 0, .int .i64 0], 424)⟩) (.n (some ⟨false, 1, .other, some [.nilFunc], some (.nilFunc, 8)⟩) .e .e) .e) (.n (some ⟨false, 1, .other, some [.nilFunc], some (.nilFunc, 8)⟩) .e .e)) (.n (some ⟨false, 1, .other, some [.nilFunc], some (.nilFunc, 8)⟩) (.n (some ⟨false, 1, .other, some [.nilFunc], some (.nilFunc, 8)⟩) .e .e) (.n (some ⟨false, 1, .other, some [.nilFunc], some (.nilFunc, 8)⟩) .e .e))) (.n (some ⟨false, 1, .other, some [.nilFunc], some (.nilFunc, 8)⟩) (.n (some ⟨true, 32, .struct [(0, 18, true), (18, 14, true)] [(0, 18), (18, 14)], some [.int .i64 0, .int .i64 0, .int .i64 0, .int .i64 0, .int .i64 0, .int .i64 0, .int .i64 0, .slice none 0 0, .slice none 0 0, .slice none 0 0, .slice none 0 0, .slice none 0 0, .slice none 0 0, .int .i64 0, .int .i64 0, .int .i64 0, .slice none 0 0, .slice none 0 0, .int .i64 0, .int .i64 0, .int .i64 0, .int .i64 0, .int .i64 0, .int .i64 0, .int .i64 0, .int .i64 0, .string ⟨#[]⟩, .int .i64 0, .int .i64 0, .slice none 0 0, .slice none 0 0, .int .i64 0], some (.agg #[.int .i64 0, .int .i64 0, .int .i64 0, .int .i64 0, .int .i64 0, .int .i64 0, .int .i64 0, .slice none 0 0, .slice none 0 0, .slice none 0 0, .slice none 0 0, .slice none 0 0, .slice none 0 0, .int .i64 0, .int .i64 0, .int .i64 0, .slice none 0 0, .slice none 0 0, .int .i64 0, .int .i64 0, .int .i64 0, .int .i64 0, .int .i64 0, .int .i64 0, .int .i64 0, .int .i64 0, .string ⟨#[]⟩, .int .i64 0, .int .i64 0, .slice none 0 0, .slice none 0 0, .int .i64 0], 424)⟩) (.n (some ⟨false, 1, .other, some [.nilFunc], some (.nilFunc, 8)⟩) .e .e) (.n (some ⟨false, 1, .other, some [.nilFunc], some (.nilFunc, 8)⟩) .e .e)) (.n none (.n (some ⟨false, 1, .other, some [.nilFunc], some (.nilFunc, 8)⟩) .e .e) (.n (some ⟨false, 1, .other, some [.nilFunc], some (.nilFunc, 8)⟩) .e .e))))) (.n none (.n (some ⟨false, 1, .slice 40 10, some [.slice none 0 0], some (.slice none 0 0, 24)⟩) (.n (some ⟨false, 1, .slice 86 6, some [.slice none 0 0], some (.slice none 0 0, 24)⟩) (.n (some ⟨false, 1, .other, some [.nilFunc], some (.nilFunc, 8)⟩) (.n (some ⟨false, 1, .other, some [.nilFunc], some (.nilFunc, 8)⟩) (.n (some ⟨false, 1, .slice 9 1, some [.slice none 0 0], some (.slice none 0 0, 24)⟩) .e .e) .e) (.n (some ⟨false, 1, .other, some [.nilFunc], some (.nilFunc, 8)⟩) .e .e)) (.n (some ⟨false, 1, .other, some [.nilFunc], some (.nilFunc, 8)⟩) .e (.n (some ⟨false, 1, .other, some [.nilFunc], some (.nilFunc, 8)⟩) .e .e))) (.n (some ⟨false, 1, .other, some [.nilFunc], some (.nilFunc, 8)⟩) (.n (some ⟨true, 6, .struct [(0, 1, false), (1, 1, false), (2, 1, false), (3, 1, false), (4, 1, false), (5, 1, false)] [(0, 1), (1, 1), (2, 1), (3, 1), (4, 1), (5, 1)], some [.int .i64 0, .int .i64 0, .int .i64 0, .int .i64 0, .int .i64 0, .int .i64 0], some (.agg #[.int .i64 0, .int .i64 0, .int .i64 0, .int .i64 0, .int .i64 0, .int .i64 0], 48)⟩) (.n (some ⟨false, 1, .other, some [.nilFunc], some (.nilFunc, 8)⟩) .e .e) (.n (some ⟨false, 1, .int .u64, some [.int .u64 0], some (.int .u64 0, 8)⟩) .e .e)) (.n (some ⟨false, 1, .other, some [.nilFunc], some (.nilFunc, 8)⟩) (.n (some ⟨false, 1, .other, some [.nilFunc], some (.nilFunc, 8)⟩) .e .e) (.n (some ⟨true, 2, .struct [(0, 1, false), (1, 1, false)] [(0, 1), (1, 1)], some [.string ⟨#[]⟩, .nilIface], some (.agg #[.string ⟨#[]⟩, .nilIface], 32)⟩) .e .e)))) (.n (some ⟨false, 1, .slice 286 4, some [.slice none 0 0], some (.slice none 0 0, 24)⟩) (.n none (.n (some ⟨false, 1, .other, some [.nilFunc], some (.nilFunc, 8)⟩) (.n (some ⟨false, 1, .other, some [.nilFunc], some (.nilFunc, 8)⟩) (.n (some ⟨false, 1, .other, some [.nilFunc], some (.nilFunc, 8)⟩) .e .e) .e) (.n (some ⟨false, 1, .other, some [.nilFunc], some (.nilFunc, 8)⟩) .e .e)) (.n (some ⟨false, 1, .other, some [.nilFunc], some (.nilFunc, 8)⟩) (.n (some ⟨false, 1, .other, some [.nilFunc], some (.nilFunc, 8)⟩) .e .e) (.n (some ⟨false, 1, .other, some [.map none], some (.map none, 8)⟩) .e .e))) (.n (some ⟨true, 15, .struct [(0, 1, false), (1, 14, true)] [(0, 1), (1, 14)], some [.int .i64 0, .int .i64 0, .int .i64 0, .int .i64 0, .int .i64 0, .int .i64 0, .int .i64 0, .int .i64 0, .int .i64 0, .string ⟨#[]⟩, .int .i64 0, .int .i64 0, .slice none 0 0, .slice none 0 0, .int .i64 0], some (.agg #[.int .i64 0, .int .i64 0, .int .i64 0, .int .i64 0, .int .i64 0, .int .i64 0, .int .i64 0, .int .i64 0, .int .i64 0, .string ⟨#[]⟩, .int .i64 0, .int .i64 0, .slice none 0 0, .slice none 0 0, .int .i64 0], 160)⟩) (.n none (.n (some ⟨false, 1, .other, some [.nilFunc], some (.nilFunc, 8)⟩) (.n (some ⟨true, 4, .struct [(0, 1, false), (1, 1, false), (2, 1, false), (3, 1, false)] [(0, 1), (1, 1), (2, 1), (3, 1)], some [.int .i64 0, .int .i64 0, .int .i64 0, .int .i64 0], some (.agg #[.int .i64 0, .int .i64 0, .int .i64 0, .int .i64 0], 32)⟩) .e .e) .e) (.n (some ⟨false, 1, .other, some [.nilFunc], some (.nilFunc, 8)⟩) .e .e)) (.n (some ⟨false, 1, .other, some [.nilFunc], some (.nilFunc, 8)⟩) (.n (some ⟨false, 1, .other, some [.nilFunc], some (.nilFunc, 8)⟩) .e .e) (.n (some ⟨false, 1, .other, some [.nilFunc], some (.nilFunc, 8)⟩) .e .e))))))))
theorem tabF_ok : TabT Tryz.prog tabF := ⟨⟨okNone, ⟨okSome ti1, ⟨okSome ti3, ⟨okNone, ⟨okNone, ⟨okSome ti31, ⟨okSome ti63, ⟨okSome ti127, ⟨okSome ti255, trivial, trivial⟩, trivial⟩, ⟨okSome ti191, trivial, trivial⟩⟩, ⟨okSome ti95, ⟨okSome ti159, ⟨okSome ti287, trivial, trivial⟩, trivial⟩, trivial⟩⟩, ⟨okSome ti47, ⟨okSome ti79, ⟨okSome ti143, trivial, trivial⟩, ⟨okSome ti207, trivial, trivial⟩⟩, ⟨okSome ti111, ⟨okSome ti175, trivial, trivial⟩, ⟨okSome ti239, trivial, trivial⟩⟩⟩⟩, ⟨okSome ti23, ⟨okSome ti39, ⟨okSome ti71, ⟨okSome ti135, ⟨okSome ti263, trivial, trivial⟩, trivial⟩, ⟨okSome ti199, trivial, trivial⟩⟩, ⟨okSome ti103, ⟨okSome ti167, trivial, trivial⟩, ⟨okSome ti231, trivial, trivial⟩⟩⟩, ⟨okSome ti55, ⟨okSome ti87, trivial, ⟨okSome ti215, trivial, trivial⟩⟩, ⟨okSome ti119, ⟨okSome ti183, trivial, trivial⟩, ⟨okSome ti247, trivial, trivial⟩⟩⟩⟩⟩, ⟨okNone, ⟨okNone, ⟨okSome ti35, ⟨okNone, ⟨okSome ti131, ⟨okSome ti259, trivial, trivial⟩, trivial⟩, ⟨okSome ti195, trivial, trivial⟩⟩, ⟨okSome ti99, ⟨okSome ti163, trivial, trivial⟩, ⟨okSome ti227, trivial, trivial⟩⟩⟩, ⟨okSome ti51, ⟨okSome ti83, ⟨okSome ti147, trivial, trivial⟩, ⟨okSome ti211, trivial, trivial⟩⟩, ⟨okSome ti115, ⟨okSome ti179, trivial, trivial⟩, ⟨okSome ti243, trivial, trivial⟩⟩⟩⟩, ⟨okSome ti27, ⟨okSome ti43, ⟨okSome ti75, ⟨okNone, ⟨okSome ti267, trivial, trivial⟩, trivial⟩, ⟨okSome ti203, trivial, trivial⟩⟩, ⟨okSome ti107, ⟨okSome ti171, trivial, trivial⟩, ⟨okSome ti235, trivial, trivial⟩⟩⟩, ⟨okSome ti59, ⟨okSome ti91, ⟨okSome ti155, trivial, trivial⟩, ⟨okSome ti219, trivial, trivial⟩⟩, ⟨okSome ti123, ⟨okSome ti187, trivial, trivial⟩, ⟨okSome ti251, trivial, trivial⟩⟩⟩⟩⟩⟩, ⟨okSome ti5, ⟨okSome ti9, ⟨okNone, ⟨okSome ti33, ⟨okSome ti65, ⟨okSome ti129, ⟨okSome ti257, trivial, trivial⟩, trivial⟩, ⟨okSome ti193, trivial, trivial⟩⟩, ⟨okSome ti97, ⟨okSome ti161, trivial, trivial⟩, ⟨okSome ti225, trivial, trivial⟩⟩⟩, ⟨okSome ti49, ⟨okSome ti81, trivial, ⟨okSome ti209, trivial, trivial⟩⟩, ⟨okNone, ⟨okSome ti177, trivial, trivial⟩, ⟨okSome ti241, trivial, trivial⟩⟩⟩⟩, ⟨okSome ti25, ⟨okSome ti41, ⟨okSome ti73, ⟨okSome ti137, ⟨okSome ti265, trivial, trivial⟩, trivial⟩, ⟨okSome ti201, trivial, trivial⟩⟩, ⟨okSome ti105, ⟨okSome ti169, trivial, trivial⟩, ⟨okSome ti233, trivial, trivial⟩⟩⟩, ⟨okNone, ⟨okSome ti89, trivial, trivial⟩, ⟨okSome ti121, ⟨okSome ti185, trivial, trivial⟩, ⟨okSome ti249, trivial, trivial⟩⟩⟩⟩⟩, ⟨okSome ti13, ⟨okSome ti21, ⟨okSome ti37, ⟨okSome ti69, ⟨okNone, ⟨okSome ti261, trivial, trivial⟩, trivial⟩, ⟨okSome ti197, trivial, trivial⟩⟩, ⟨okNone, ⟨okSome ti165, trivial, trivial⟩, ⟨okSome ti229, trivial, trivial⟩⟩⟩, ⟨okSome ti53, ⟨okSome ti85, ⟨okSome ti149, trivial, trivial⟩, ⟨okSome ti213, trivial, trivial⟩⟩, ⟨okSome ti117, ⟨okSome ti181, trivial, trivial⟩, ⟨okSome ti245, trivial, trivial⟩⟩⟩⟩, ⟨okSome ti29, ⟨okSome ti45, ⟨okSome ti77, ⟨okSome ti141, ⟨okSome ti269, trivial, trivial⟩, trivial⟩, ⟨okSome ti205, trivial, trivial⟩⟩, ⟨okSome ti109, ⟨okSome ti173, trivial, trivial⟩, ⟨okSome ti237, trivial, trivial⟩⟩⟩, ⟨okSome ti61, ⟨okSome ti93, ⟨okSome ti157, ⟨okSome ti285, trivial, trivial⟩, trivial⟩, ⟨okSome ti221, trivial, trivial⟩⟩, ⟨okSome ti125, ⟨okSome ti189, trivial, trivial⟩, ⟨okSome ti253, trivial, trivial⟩⟩⟩⟩⟩⟩⟩, ⟨okSome ti2, ⟨okSome ti4, ⟨okNone, ⟨okNone, ⟨okSome ti32, ⟨okSome ti64, ⟨okSome ti128, ⟨okSome ti256, trivial, trivial⟩, trivial⟩, ⟨okSome ti192, trivial, trivial⟩⟩, ⟨okNone, ⟨okSome ti160, ⟨okSome ti288, trivial, trivial⟩, trivial⟩, ⟨okSome ti224, trivial, trivial⟩⟩⟩, ⟨okSome ti48, ⟨okSome ti80, ⟨okSome ti144, trivial, trivial⟩, ⟨okSome ti208, trivial, trivial⟩⟩, ⟨okSome ti112, ⟨okSome ti176, trivial, trivial⟩, ⟨okSome ti240, trivial, trivial⟩⟩⟩⟩, ⟨okSome ti24, ⟨okSome ti40, ⟨okSome ti72, ⟨okSome ti136, ⟨okSome ti264, trivial, trivial⟩, trivial⟩, ⟨okSome ti200, trivial, trivial⟩⟩, ⟨okSome ti104, ⟨okSome ti168, trivial, trivial⟩, ⟨okSome ti232, trivial, trivial⟩⟩⟩, ⟨okSome ti56, ⟨okSome ti88, ⟨okSome ti152, ⟨okSome ti280, trivial, trivial⟩, trivial⟩, ⟨okSome ti216, trivial, trivial⟩⟩, ⟨okSome ti120, ⟨okSome ti184, trivial, trivial⟩, ⟨okSome ti248, trivial, trivial⟩⟩⟩⟩⟩, ⟨okSome ti12, ⟨okSome ti20, ⟨okSome ti36, ⟨okSome ti68, ⟨okSome ti132, ⟨okSome ti260, trivial, trivial⟩, trivial⟩, ⟨okSome ti196, trivial, trivial⟩⟩, ⟨okSome ti100, ⟨okSome ti164, trivial, trivial⟩, ⟨okSome ti228, trivial, trivial⟩⟩⟩, ⟨okSome ti52, ⟨okSome ti84, ⟨okNone, ⟨okSome ti276, trivial, trivial⟩, trivial⟩, ⟨okSome ti212, trivial, trivial⟩⟩, ⟨okSome ti116, ⟨okSome ti180, trivial, trivial⟩, ⟨okSome ti244, trivial, trivial⟩⟩⟩⟩, ⟨okSome ti28, ⟨okSome ti44, ⟨okSome ti76, ⟨okSome ti140, ⟨okSome ti268, trivial, trivial⟩, trivial⟩, ⟨okSome ti204, trivial, trivial⟩⟩, ⟨okSome ti108, trivial, ⟨okSome ti236, trivial, trivial⟩⟩⟩, ⟨okSome ti60, ⟨okSome ti92, ⟨okSome ti156, trivial, trivial⟩, trivial⟩, ⟨okSome ti124, ⟨okSome ti188, trivial, trivial⟩, trivial⟩⟩⟩⟩⟩, ⟨okNone, ⟨okNone, ⟨okNone, ⟨okSome ti34, ⟨okSome ti66, ⟨okNone, ⟨okSome ti258, trivial, trivial⟩, trivial⟩, ⟨okSome ti194, trivial, trivial⟩⟩, ⟨okSome ti98, ⟨okSome ti162, trivial, trivial⟩, ⟨okSome ti226, trivial, trivial⟩⟩⟩, ⟨okSome ti50, ⟨okNone, ⟨okSome ti146, trivial, trivial⟩, ⟨okSome ti210, trivial, trivial⟩⟩, ⟨okSome ti114, ⟨okSome ti178, trivial, trivial⟩, ⟨okSome ti242, trivial, trivial⟩⟩⟩⟩, ⟨okSome ti26, ⟨okSome ti42, ⟨okSome ti74, ⟨okSome ti138, ⟨okSome ti266, trivial, trivial⟩, trivial⟩, ⟨okSome ti202, trivial, trivial⟩⟩, ⟨okSome ti106, ⟨okSome ti170, trivial, trivial⟩, ⟨okSome ti234, trivial, trivial⟩⟩⟩, ⟨okSome ti58, ⟨okSome ti90, ⟨okSome ti154, trivial, trivial⟩, ⟨okSome ti218, trivial, trivial⟩⟩, ⟨okNone, ⟨okSome ti186, trivial, trivial⟩, ⟨okSome ti250, trivial, trivial⟩⟩⟩⟩⟩, ⟨okNone, ⟨okSome ti22, ⟨okSome ti38, ⟨okSome ti70, ⟨okSome ti134, ⟨okSome ti262, trivial, trivial⟩, trivial⟩, ⟨okSome ti198, trivial, trivial⟩⟩, ⟨okSome ti102, trivial, ⟨okSome ti230, trivial, trivial⟩⟩⟩, ⟨okSome ti54, ⟨okSome ti86, ⟨okSome ti150, trivial, trivial⟩, ⟨okSome ti214, trivial, trivial⟩⟩, ⟨okSome ti118, ⟨okSome ti182, trivial, trivial⟩, ⟨okSome ti246, trivial, trivial⟩⟩⟩⟩, ⟨okSome ti30, ⟨okNone, ⟨okSome ti78, ⟨okSome ti142, ⟨okSome ti270, trivial, trivial⟩, trivial⟩, ⟨okSome ti206, trivial, trivial⟩⟩, ⟨okSome ti110, ⟨okSome ti174, trivial, trivial⟩, ⟨okSome ti238, trivial, trivial⟩⟩⟩, ⟨okSome ti62, ⟨okNone, ⟨okSome ti158, ⟨okSome ti286, trivial, trivial⟩, trivial⟩, ⟨okSome ti222, trivial, trivial⟩⟩, ⟨okSome ti126, ⟨okSome ti190, trivial, trivial⟩, ⟨okSome ti254, trivial, trivial⟩⟩⟩⟩⟩⟩⟩⟩, by kernel_rfl⟩
end Go.Proofs.YtbjepdfnmbdplaaGreat
end
section
namespace Go.Proofs.YtbjepdfnmbdplaaGreat
open Go.RowKit
set_option linter.unusedSimpArgs false
set_option linter.unusedVariables false
set_option maxRecDepth 100000
set_option maxHeartbeats 4000000
def zeroR : List PV := [PV.int 0, PV.int 0, PV.int 0, PV.int 0, PV.int 0, PV.int 0, PV.int 0, .v (.slice none 0 0), .v (.slice none 0 0), .v (.slice none 0 0), .v (.slice none 0 0), .v (.slice none 0 0), .v (.slice none 0 0), PV.int 0, PV.int 0, PV.int 0, .v (.slice none 0 0), .v (.slice none 0 0)]
theorem onAcc_no {r : Rpl} {m : Msg} (h : ¬ (ownI m.bal r.n = m.fr ∧ m.kind = 3 ∧ hearsB r m = true ∧ lrnB r m.id m.quorum m.payload = true)) : onAcc r m = (r, []) := if_neg h
theorem onAcc_in {r : Rpl} {m : Msg} (h : ownI m.bal r.n = m.fr ∧ m.kind = 3 ∧ hearsB r m = true ∧ lrnB r m.id m.quorum m.payload = true) {s : Rpl} {e : Ent} (hs : lrnR r m.id m.quorum m.payload = s) (he : lrnE r m.id m.quorum m.payload = e) : onAcc r m = (if settB e.phase = true then (s, helpO s e m.fr)
    else if m.bal < e.bal then (s, ansO r m 8 e.bal)
    else if accX e m.t m.bal = 0 ∧ rputX s (accE e m.t m.bal) = 0 then (bmpR s (accE e m.t m.bal) m.t, ansO r m 4 m.bal)
    else (r, [])) := by
  subst hs he
  exact if_pos h
instance onaccept_spec (r : Rpl) (m : Msg) : HasSpec Tryz.prog 14 [.agg r.cs, .agg m.cs] (.tup [.agg (onAcc r m).1.cs, PV.outs (onAcc r m).2]) := by
  have jh := hears26_spec r m
  have jl := learn_spec r m.id m.quorum m.payload
  by_cases ho : ownI m.bal r.n = m.fr
  · refine ⟨?_⟩; refine Spec.ofR (h := fun F w0 => ?_)
    repeat' ((conv => whnf); first | refine Q.E ?_ | (refine Stk.both (fun hb => ?_) (fun hb => ?_) <;> (try simp only [lE] at hb))); all_goals (conv => whnf)
    have tbF : TabT Tryz.prog tabF := tabF_ok
    refine Stk.re tabF_ok ?_
    repeat' ((conv => whnf); first | refine Q.E ?_ | (refine Stk.both (fun hb => ?_) (fun hb => ?_) <;> (try simp only [lE] at hb))); all_goals (conv => whnf)
    refine Stk.weakC (Weak.trans (Weak.ren 2 102 rfl rfl rfl) (Weak.trans (Weak.ren 3 103 rfl rfl rfl) (Weak.trans (Weak.ren 4 104 rfl rfl rfl) (Weak.trans (Weak.ren 6 106 rfl rfl rfl) (Weak.gc (env' := [(22, .agg m.cs), (21, .agg r.cs), (2, .lp 102 0), (3, .lp 103 0), (4, .lp 104 0), (6, .lp 106 0)]) (lh' := [(102, .box r.cs), (103, .box m.cs), (104, .box zeroR), (106, .box [.fn (.func 49) [.agg (r.cs ++ m.cs)] []])]) ⟨rfl, rfl, rfl, rfl, rfl, rfl, trivial⟩ ⟨rfl, rfl, rfl, rfl, trivial⟩ rfl rfl rfl))))) ?_
    conv => whnf
    refine Stk.inl (h := fun tm => ?_)
    repeat' ((conv => whnf); first | refine Q.E ?_ | (refine Stk.both (fun hb => ?_) (fun hb => ?_) <;> (try simp only [lE] at hb))); all_goals (conv => whnf)
    refine Stk.weakC (Weak.trans (Weak.ren 3 203 rfl rfl rfl) (Weak.trans (Weak.ren 4 204 rfl rfl rfl) (Weak.trans (Weak.ren 5 205 rfl rfl rfl) (Weak.gc (env' := [(24, (.fn (.func 123) [] [.lp 204 0, .lp 205 0, .lp 203 0])), (25, (.fn (.func 51) [] [.lp 103 0, .lp 106 0, .lp 102 0])), (4, .lp 104 0)]) (lh' := [(203, .box r.cs), (204, .box m.cs), (205, .box [PV.int 3]), (102, .box r.cs), (103, .box m.cs), (104, .box zeroR), (106, .box [.fn (.func 49) [.agg (r.cs ++ m.cs)] []])]) ⟨rfl, rfl, rfl, trivial⟩ ⟨rfl, rfl, rfl, rfl, rfl, rfl, rfl, trivial⟩ rfl rfl rfl)))) ?_
    by_cases hk : m.kind = 3
    · cases hh : hearsB r m with
      | false =>
        rw [hh] at jh
        rw [onAcc_no (fun h => by rw [hh] at h; cases h.2.2.1)]
        conv => whnf
        refine Stk.inl (h := fun tm => ?_)
        repeat' ((conv => whnf); first | refine Q.E ?_ | (refine Stk.both (fun hb => ?_) (fun hb => ?_) <;> (try simp only [lE] at hb))); all_goals (conv => whnf)
        ((refine FinK.of (h := ?_)); (repeat' (first | exact FinL.nil | refine FinL.cons ?_ ?_ | refine Fin'.tup ?_ | exact Q.f3 | exact Q.f4 | exact Q.f5 | exact Q.f6 | refine Fin'.vb ?_ | refine Fin'.vi ?_ | refine Fin'.agg ?_)))
      | true =>
        rw [hh] at jh
        cases hl : lrnB r m.id m.quorum m.payload with
        | false =>
          rw [hl] at jl
          rw [onAcc_no (fun h => by rw [hl] at h; cases h.2.2.2)]
          generalize lrnR r m.id m.quorum m.payload = s at *
          generalize lrnE r m.id m.quorum m.payload = e at *
          conv => whnf
          refine Stk.inl (h := fun tm => ?_)
          repeat' ((conv => whnf); first | refine Q.E ?_ | (refine Stk.both (fun hb => ?_) (fun hb => ?_) <;> (try simp only [lE] at hb))); all_goals (conv => whnf)
          ((refine FinK.of (h := ?_)); (repeat' (first | exact FinL.nil | refine FinL.cons ?_ ?_ | refine Fin'.tup ?_ | exact Q.f3 | exact Q.f4 | exact Q.f5 | exact Q.f6 | refine Fin'.vb ?_ | refine Fin'.vi ?_ | refine Fin'.agg ?_)))
        | true =>
          rw [hl] at jl
          rw [onAcc_in ⟨ho, hk, hh, hl⟩ rfl rfl]
          clear hl
          generalize lrnR r m.id m.quorum m.payload = s at *
          generalize lrnE r m.id m.quorum m.payload = e at *
          have jp := phasesett_spec e.phase
          conv => whnf
          refine Stk.inl (h := fun tm => ?_)
          repeat' ((conv => whnf); first | refine Q.E ?_ | (refine Stk.both (fun hb => ?_) (fun hb => ?_) <;> (try simp only [lE] at hb))); all_goals (conv => whnf)
          refine Stk.weakC (Weak.trans (Weak.ren 5 305 rfl rfl rfl) (Weak.trans (Weak.ren 7 307 rfl rfl rfl) (Weak.trans (Weak.ren 8 308 rfl rfl rfl) (Weak.gc (env' := [(36, (.fn (.func 51) [] [.lp 103 0, .lp 106 0, .lp 102 0])), (37, .agg s.cs), (38, .agg e.cs), (5, .lp 305 0)]) (lh' := [(305, .box zeroR), (203, .box r.cs), (204, .box m.cs), (205, .box [PV.int 3]), (102, .box r.cs), (103, .box m.cs), (104, .box zeroR), (106, .box [.fn (.func 49) [.agg (r.cs ++ m.cs)] []])]) ⟨rfl, rfl, rfl, rfl, trivial⟩ ⟨rfl, rfl, rfl, rfl, rfl, rfl, rfl, rfl, trivial⟩ rfl rfl rfl)))) ?_
          cases hp : settB e.phase with
          | true =>
            rw [hp] at jp
            rw [if_pos rfl]
            have jo := help_spec s e m.fr
            generalize helpO s e m.fr = o at *
            conv => whnf
            refine Stk.inl (h := fun tm => ?_)
            repeat' ((conv => whnf); first | refine Q.E ?_ | (refine Stk.both (fun hb => ?_) (fun hb => ?_) <;> (try simp only [lE] at hb))); all_goals (conv => whnf)
            ((refine FinK.of (h := ?_)); (repeat' (first | exact FinL.nil | refine FinL.cons ?_ ?_ | refine Fin'.tup ?_ | exact Q.f3 | exact Q.f4 | exact Q.f5 | exact Q.f6 | refine Fin'.vb ?_ | refine Fin'.vi ?_ | refine Fin'.agg ?_)))
          | false =>
            rw [hp] at jp
            rw [if_neg (by simp)]
            by_cases hb : m.bal < e.bal
            · rw [if_pos hb]
              conv => whnf
              refine Stk.inl (h := fun tm => ?_)
              repeat' ((conv => whnf); first | refine Q.E ?_ | (refine Stk.both (fun hb => ?_) (fun hb => ?_) <;> (try simp only [lE] at hb))); all_goals (conv => whnf)
              refine Stk.by (with_spec r m 8 e.bal) (h := ?_)
              repeat' ((conv => whnf); first | refine Q.E ?_ | (refine Stk.both (fun hb => ?_) (fun hb => ?_) <;> (try simp only [lE] at hb))); all_goals (conv => whnf)
              ((refine FinK.of (h := ?_)); (repeat' (first | exact FinL.nil | refine FinL.cons ?_ ?_ | refine Fin'.tup ?_ | exact Q.f3 | exact Q.f4 | exact Q.f5 | exact Q.f6 | refine Fin'.vb ?_ | refine Fin'.vi ?_ | refine Fin'.agg ?_)))
            · rw [if_neg hb]
              have ja := accept_spec e m.t m.bal
              by_cases hx : accX e m.t m.bal = 0
              · have ju := put_spec s (accE e m.t m.bal)
                by_cases hy : rputX s (accE e m.t m.bal) = 0
                · rw [if_pos ⟨hx, hy⟩, show bmpR s (accE e m.t m.bal) m.t = { s with entries := putE s.entries (accE e m.t m.bal), clock := bumpI s.clock m.t } from if_pos hy]
                  rw [hy, rputR_yes hy] at ju
                  clear hy
                  generalize accX e m.t m.bal = x at *
                  generalize accE e m.t m.bal = c at *
                  generalize putE s.entries c = L at *
                  conv => whnf
                  refine Stk.inl (h := fun tm => ?_)
                  repeat' ((conv => whnf); first | refine Q.E ?_ | (refine Stk.both (fun hb => ?_) (fun hb => ?_) <;> (try simp only [lE] at hb))); all_goals (conv => whnf)
                  refine Stk.by (with_spec r m 4 m.bal) (h := ?_)
                  repeat' ((conv => whnf); first | refine Q.E ?_ | (refine Stk.both (fun hb => ?_) (fun hb => ?_) <;> (try simp only [lE] at hb))); all_goals (conv => whnf)
                  ((refine FinK.of (h := ?_)); (repeat' (first | exact FinL.nil | refine FinL.cons ?_ ?_ | refine Fin'.tup ?_ | exact Q.f3 | exact Q.f4 | exact Q.f5 | exact Q.f6 | refine Fin'.vb ?_ | refine Fin'.vi ?_ | refine Fin'.agg ?_)))
                · rw [if_neg (fun h => hy h.2)]
                  generalize accX e m.t m.bal = x at *
                  generalize accE e m.t m.bal = c at *
                  generalize rputX s c = y at *
                  generalize rputR s c = u at *
                  conv => whnf
                  refine Stk.inl (h := fun tm => ?_)
                  repeat' ((conv => whnf); first | refine Q.E ?_ | (refine Stk.both (fun hb => ?_) (fun hb => ?_) <;> (try simp only [lE] at hb))); all_goals (conv => whnf)
                  ((refine FinK.of (h := ?_)); (repeat' (first | exact FinL.nil | refine FinL.cons ?_ ?_ | refine Fin'.tup ?_ | exact Q.f3 | exact Q.f4 | exact Q.f5 | exact Q.f6 | refine Fin'.vb ?_ | refine Fin'.vi ?_ | refine Fin'.agg ?_)))
              · rw [if_neg (fun h => hx h.1)]
                generalize accX e m.t m.bal = x at *
                generalize accE e m.t m.bal = c at *
                conv => whnf
                refine Stk.inl (h := fun tm => ?_)
                repeat' ((conv => whnf); first | refine Q.E ?_ | (refine Stk.both (fun hb => ?_) (fun hb => ?_) <;> (try simp only [lE] at hb))); all_goals (conv => whnf)
                ((refine FinK.of (h := ?_)); (repeat' (first | exact FinL.nil | refine FinL.cons ?_ ?_ | refine Fin'.tup ?_ | exact Q.f3 | exact Q.f4 | exact Q.f5 | exact Q.f6 | refine Fin'.vb ?_ | refine Fin'.vi ?_ | refine Fin'.agg ?_)))
    · rw [onAcc_no (fun h => hk h.2.1)]
      conv => whnf
      refine Stk.inl (h := fun tm => ?_)
      repeat' ((conv => whnf); first | refine Q.E ?_ | (refine Stk.both (fun hb => ?_) (fun hb => ?_) <;> (try simp only [lE] at hb))); all_goals (conv => whnf)
      ((refine FinK.of (h := ?_)); (repeat' (first | exact FinL.nil | refine FinL.cons ?_ ?_ | refine Fin'.tup ?_ | exact Q.f3 | exact Q.f4 | exact Q.f5 | exact Q.f6 | refine Fin'.vb ?_ | refine Fin'.vi ?_ | refine Fin'.agg ?_)))
  · rw [onAcc_no (fun h => ho h.1)]
    refine ⟨?_⟩; refine Spec.ofR (h := fun F w0 => ?_)
    repeat' ((conv => whnf); first | refine Q.E ?_ | (refine Stk.both (fun hb => ?_) (fun hb => ?_) <;> (try simp only [lE] at hb))); all_goals (conv => whnf)
    ((refine FinK.of (h := ?_)); (repeat' (first | exact FinL.nil | refine FinL.cons ?_ ?_ | refine Fin'.tup ?_ | exact Q.f3 | exact Q.f4 | exact Q.f5 | exact Q.f6 | refine Fin'.vb ?_ | refine Fin'.vi ?_ | refine Fin'.agg ?_)))
end Go.Proofs.YtbjepdfnmbdplaaGreat
end
section
namespace Go.Proofs.YtbjepdfnmbdplaaGreat
open Go.RowKit
set_option linter.unusedSimpArgs false
set_option linter.unusedVariables false
theorem ents_pw {l : List Ent} : entsB l = true ↔ l.length ≤ 40 ∧ (∀ x ∈ l, entB x = true) ∧ l.Pairwise (fun a b => a.id < b.id) := by
  rw [entsB_iff]
  refine ⟨fun ⟨h1, h2⟩ => ⟨h1, fun x hx => ?_, ?_⟩, fun ⟨h1, h2, h3⟩ => ⟨h1, fun i hi _ => ⟨h2 _ (List.getElem_mem hi), fun h0 => ?_⟩⟩⟩
  · obtain ⟨i, hi, rfl⟩ := List.getElem_of_mem hx
    exact (h2 i hi hi).1
  · rw [List.pairwise_iff_getElem]
    intro i j hi hj hij
    exact rise_lt h2 j hj i hij
  · rw [List.pairwise_iff_getElem] at h3
    exact h3 (i - 1) i (by omega) hi (by omega)
theorem find_mem {l : List Ent} {id : Int} (h : findB l id = true) : findT l id ∈ l ∧ (findT l id).id = id := by
  obtain ⟨k, hk, h0, h1⟩ := isId_first h
  rw [(find_at hk h0 h1).1]
  exact ⟨List.getElem_mem hk, of_decide_eq_true h1⟩
theorem find_uniq {l : List Ent} (hl : l.Pairwise (fun a b => a.id < b.id)) {x : Ent} (hx : x ∈ l) : findB l x.id = true ∧ findT l x.id = x := by
  have h1 : findB l x.id = true := List.any_eq_true.2 ⟨x, hx, decide_eq_true rfl⟩
  refine ⟨h1, ?_⟩
  obtain ⟨h2, h3⟩ := find_mem h1
  obtain ⟨i, hi, ei⟩ := List.getElem_of_mem h2
  obtain ⟨j, hj, ej⟩ := List.getElem_of_mem hx
  rw [List.pairwise_iff_getElem] at hl
  rcases Nat.lt_trichotomy i j with h | h | h
  · have := hl i j hi hj h
    rw [ei, ej] at this
    omega
  · subst h
    rw [← ei, ej]
  · have := hl j i hj hi h
    rw [ei, ej] at this
    omega
theorem find_not {l : List Ent} {id : Int} (h : findB l id = false) : ∀ x ∈ l, x.id ≠ id := fun x hx e => by
  have := List.any_eq_false.1 h x hx
  exact this (decide_eq_true e)
theorem put_mem {l : List Ent} {e : Ent} (hl : entsB l = true) (x : Ent) : x ∈ putE l e ↔ x = e ∨ (x ∈ l ∧ x.id ≠ e.id) := by
  have hr := (entsB_iff.1 hl).2
  obtain ⟨h40, h2, h3⟩ := ents_pw.1 hl
  obtain ⟨hs1, hs2⟩ := pos_split hr e.id
  unfold putE
  cases hf : findB l e.id with
  | true =>
    obtain ⟨hp, hid⟩ := pos_found hr hf
    rw [if_pos rfl]
    constructor
    · intro h
      obtain ⟨i, hi, rfl⟩ := List.getElem_of_mem h
      rw [List.length_set] at hi
      by_cases e1 : posE l e.id = i
      · left; rw [List.getElem_set, if_pos e1]
      · right
        rw [List.getElem_set, if_neg e1]
        refine ⟨List.getElem_mem hi, fun e2 => ?_⟩
        rw [List.pairwise_iff_getElem] at h3
        rcases Nat.lt_or_ge i (posE l e.id) with h | h
        · have := h3 i (posE l e.id) hi hp h; omega
        · have := h3 (posE l e.id) i hp hi (by omega); omega
    · rintro (rfl | ⟨hx, hne⟩)
      · exact List.mem_set hp _
      · obtain ⟨i, hi, rfl⟩ := List.getElem_of_mem hx
        have e1 : posE l e.id ≠ i := fun h => by subst h; exact hne hid
        have : (l.set (posE l e.id) e)[i]'(by rw [List.length_set]; exact hi) = l[i] := by rw [List.getElem_set, if_neg e1]
        rw [← this]
        exact List.getElem_mem _
  | false =>
    rw [if_neg (by simp)]
    have hn := find_not hf
    rw [List.mem_append, List.mem_append, List.mem_singleton]
    constructor
    · rintro ((h | h) | h)
      · exact .inr ⟨List.mem_of_mem_take h, hn x (List.mem_of_mem_take h)⟩
      · exact .inl h
      · exact .inr ⟨List.mem_of_mem_drop h, hn x (List.mem_of_mem_drop h)⟩
    · rintro (h | ⟨h, _⟩)
      · exact .inl (.inr h)
      · rw [← List.take_append_drop (posE l e.id) l, List.mem_append] at h
        exact h.imp .inl id
theorem put_pw {l : List Ent} {e : Ent} (hl : entsB l = true) : (putE l e).Pairwise (fun a b => a.id < b.id) := by
  have hr := (entsB_iff.1 hl).2
  obtain ⟨h40, h2, h3⟩ := ents_pw.1 hl
  obtain ⟨hs1, hs2⟩ := pos_split hr e.id
  unfold putE
  cases hf : findB l e.id with
  | true =>
    obtain ⟨hp, hid⟩ := pos_found hr hf
    rw [if_pos rfl, List.pairwise_iff_getElem]
    rw [List.pairwise_iff_getElem] at h3
    intro i j hi hj hij
    rw [List.length_set] at hi hj
    have hg : ∀ k (hk : k < l.length), ((l.set (posE l e.id) e)[k]'(by rw [List.length_set]; exact hk)).id = l[k].id := by
      intro k hk
      rw [List.getElem_set]
      split
      · rename_i h
        subst h
        exact hid.symm
      · rfl
    rw [hg i hi, hg j hj]
    exact h3 i j hi hj hij
  | false =>
    rw [if_neg (by simp), List.append_assoc, List.pairwise_append]
    have hn := pos_not hr hf
    have ht : ∀ a ∈ l.take (posE l e.id), a.id < e.id := fun a ha => by
      obtain ⟨i, hi, rfl⟩ := List.mem_take_iff_getElem.1 ha
      exact hs1 i (by omega) (by omega)
    have hd : ∀ b ∈ l.drop (posE l e.id), e.id < b.id := fun b hb => by
      obtain ⟨i, hi, rfl⟩ := List.mem_drop_iff_getElem.1 hb
      exact hn _ (by omega) (by omega)
    refine ⟨h3.sublist (List.take_sublist _ _), ?_, fun a ha b hb => ?_⟩
    · rw [List.singleton_append, List.pairwise_cons]
      exact ⟨hd, h3.sublist (List.drop_sublist _ _)⟩
    · rw [List.singleton_append, List.mem_cons] at hb
      rcases hb with rfl | hb
      · exact ht a ha
      · exact Int.lt_trans (ht a ha) (hd b hb)
theorem put_len {l : List Ent} {e : Ent} (hl : entsB l = true) (h0 : putX l e = 0) : (putE l e).length ≤ 40 := by
  have h40 := (entsB_iff.1 hl).1
  have hp := pos_le l e.id
  unfold putE
  split
  · rw [List.length_set]; exact h40
  · rename_i hf
    have h : l.length < 40 := by
      unfold putX at h0
      split at h0
      · cases h0
      · split at h0
        · assumption
        · cases h0
    simp only [List.length_append, List.length_take, List.length_drop, List.length_singleton]
    omega
theorem putX_ent {l : List Ent} {e : Ent} (h0 : putX l e = 0) : entsB l = true ∧ entB e = true := by
  unfold putX at h0
  split at h0
  · cases h0
  · rename_i h
    exact Classical.not_not.1 h
theorem put_ents {l : List Ent} {e : Ent} (h0 : putX l e = 0) : entsB (putE l e) = true := by
  obtain ⟨hl, he⟩ := putX_ent h0
  refine ents_pw.2 ⟨put_len hl h0, fun x hx => ?_, put_pw hl⟩
  rcases (put_mem hl x).1 hx with rfl | ⟨hx, _⟩
  · exact he
  · exact (ents_pw.1 hl).2.1 x hx
theorem put_find {l : List Ent} {e : Ent} (hl : entsB l = true) (id : Int) : (e.id = id → findB (putE l e) id = true ∧ findT (putE l e) id = e) ∧ (e.id ≠ id → findB l id = true → findB (putE l e) id = true ∧ findT (putE l e) id = findT l id) := by
  constructor
  · rintro rfl
    exact find_uniq (put_pw hl) ((put_mem hl e).2 (.inl rfl))
  · intro hne hf
    obtain ⟨h1, h2⟩ := find_mem hf
    have := find_uniq (put_pw hl) ((put_mem hl (findT l id)).2 (.inr ⟨h1, fun h => hne (by rw [← h, h2])⟩))
    rwa [h2] at this
theorem rput_parts {r : Rpl} {e : Ent} (h : rputX r e = 0) : repB r = true ∧ (1 ≤ selfI e.id ∧ selfI e.id ≤ r.n) ∧ ¬ (doneAt r e.id = true ∧ e.phase ≠ 6) ∧ putX r.entries e = 0 := by
  unfold rputX at h
  split at h
  · cases h
  · rename_i h1
    split at h
    · cases h
    · rename_i h2
      obtain ⟨h3, h4⟩ := Classical.not_not.1 h1
      exact ⟨h3, h4, h2, h⟩
theorem rep_ents {r : Rpl} (h : repB r = true) : entsB r.entries = true ∧ ∀ x ∈ r.entries, selfI x.id ≤ r.n := by
  have h2 := (rep_parts h).2.1
  unfold cmdB at h2
  rw [Bool.and_eq_true, Bool.not_eq_true'] at h2
  refine ⟨h2.1, fun x hx => ?_⟩
  have := List.any_eq_false.1 h2.2 x hx
  unfold farB at this
  rw [decide_eq_true_iff] at this
  omega
theorem bump_ge (now t : Int) : now ≤ bumpI now t := by unfold bumpI; split <;> omega
theorem bump_le {now t : Int} (h : now ≤ 1000000) : bumpI now t ≤ 1000000 := by unfold bumpI; split <;> omega
theorem clk_later {now now2 floor : Int} {own : List Att} (h : clkB now floor own = true) (h1 : now ≤ now2) (h2 : now2 ≤ 1000000) : clkB now2 floor own = true := by
  unfold clkB at h ⊢
  rw [Bool.and_eq_true, decide_eq_true_iff] at h
  rw [decide_eq_true (show 0 ≤ floor ∧ floor ≤ now2 ∧ now2 ≤ 1000000 by omega), Bool.true_and]
  refine pref_iff.2 fun i hi => ?_
  have := ownP_iff.1 (pref_iff.1 h.2 i hi)
  exact ownP_iff.2 ⟨⟨this.1.1, this.1.2.1, by omega, this.1.2.2.2⟩, this.2⟩
theorem clk_le {now floor : Int} {own : List Att} (h : clkB now floor own = true) : 0 ≤ floor ∧ floor ≤ now ∧ now ≤ 1000000 := by
  unfold clkB at h
  rw [Bool.and_eq_true, decide_eq_true_iff] at h
  exact h.1
theorem rep_with {r : Rpl} {l : List Ent} {c : Int} (h : repB r = true) (hl : entsB l = true) (hs : ∀ x ∈ l, selfI x.id ≤ r.n) (h1 : r.clock ≤ c) (h2 : c ≤ 1000000) : repB { r with entries := l, clock := c } = true := by
  obtain ⟨a1, a2, a3, a4⟩ := rep_parts h
  obtain ⟨b1, b2⟩ := nums_p a1
  have c1 : numsB { r with entries := l, clock := c } = true := by
    rw [nums_yes (r := { r with entries := l, clock := c }) b1]
    exact clk_later b2 h1 h2
  have c2 : cmdB { r with entries := l, clock := c } = true := by
    unfold cmdB
    show (entsB l && !l.any (farB r.n)) = true
    rw [hl, Bool.true_and, Bool.not_eq_true']
    exact List.any_eq_false.2 fun x hx => by
      unfold farB
      rw [decide_eq_true_iff]
      have := hs x hx
      omega
  unfold repB
  rw [c1, c2, show hrsB { r with entries := l, clock := c } = hrsB r from rfl, show finB { r with entries := l, clock := c } = finB r from rfl, a3, a4]
  rfl
theorem put_self {r : Rpl} {e : Ent} (h : rputX r e = 0) : ∀ x ∈ putE r.entries e, selfI x.id ≤ r.n := by
  obtain ⟨h1, h2, _, h4⟩ := rput_parts h
  obtain ⟨h5, h6⟩ := rep_ents h1
  intro x hx
  rcases (put_mem h5 x).1 hx with rfl | ⟨hx, _⟩
  · exact h2.2
  · exact h6 x hx
theorem rep_clock {r : Rpl} (h : repB r = true) : r.clock ≤ 1000000 := (clk_le (nums_p (rep_parts h).1).2).2.2
theorem rput_rep {r : Rpl} {e : Ent} (h : rputX r e = 0) : repB (rputR r e) = true := by
  obtain ⟨h1, h2, _, h4⟩ := rput_parts h
  rw [rputR_yes h]
  exact rep_with (c := r.clock) h1 (put_ents h4) (put_self h) (Int.le_refl _) (rep_clock h1)
theorem bmp_rep {r : Rpl} {e : Ent} {t : Int} (h : rputX r e = 0) : repB (bmpR r e t) = true := by
  obtain ⟨h1, h2, _, h4⟩ := rput_parts h
  unfold bmpR
  rw [if_pos h]
  exact rep_with h1 (put_ents h4) (put_self h) (bump_ge _ _) (bump_le (rep_clock h1))
structure Stays (r s : Rpl) : Prop where
  n : s.n = r.n
  f : s.f = r.f
  self : s.self = r.self
  seq : s.seq = r.seq
  clock : r.clock ≤ s.clock
  rep : repB r = true → repB s = true
theorem Stays.refl (r : Rpl) : Stays r r := ⟨rfl, rfl, rfl, rfl, Int.le_refl _, id⟩
theorem Stays.trans {r s u : Rpl} (h : Stays r s) (k : Stays s u) : Stays r u := ⟨k.n.trans h.n, k.f.trans h.f, k.self.trans h.self, k.seq.trans h.seq, Int.le_trans h.clock k.clock, fun x => k.rep (h.rep x)⟩
theorem rput_stays (r : Rpl) (e : Ent) : Stays r (rputR r e) := by
  by_cases h : rputX r e = 0
  · exact ⟨by rw [rputR_yes h], by rw [rputR_yes h], by rw [rputR_yes h], by rw [rputR_yes h], by rw [rputR_yes h]; exact Int.le_refl _, fun _ => rput_rep h⟩
  · rw [rputR_no h]; exact .refl r
theorem bmp_stays (r : Rpl) (e : Ent) (t : Int) : Stays r (bmpR r e t) := by
  by_cases h : rputX r e = 0
  · have e1 : bmpR r e t = { r with entries := putE r.entries e, clock := bumpI r.clock t } := if_pos h
    exact ⟨by rw [e1], by rw [e1], by rw [e1], by rw [e1], by rw [e1]; exact bump_ge _ _, fun _ => bmp_rep h⟩
  · rw [show bmpR r e t = r from if_neg h]; exact .refl r
theorem lrn_stays (r : Rpl) (id q : Int) (p : ByteArray) : Stays r (lrnR r id q p) := by
  unfold lrnR
  split
  · split
    · exact .refl r
    · split
      · exact rput_stays r _
      · exact .refl r
  · exact .refl r
theorem lrn_rep {r : Rpl} {id q : Int} {p : ByteArray} (h : lrnB r id q p = true) : repB (lrnR r id q p) = true := by
  unfold lrnB at h
  split at h
  · rename_i hc
    exact (lrn_stays r id q p).rep hc.1
  · cases h
theorem lrn_find {r : Rpl} {id q : Int} {p : ByteArray} (h : lrnB r id q p = true) : findB (lrnR r id q p).entries id = true ∧ findT (lrnR r id q p).entries id = lrnE r id q p := by
  unfold lrnB at h
  split at h
  · rename_i hc
    by_cases hf : findB r.entries id = true
    · rw [show lrnR r id q p = r from (if_pos hc).trans (if_pos hf), show lrnE r id q p = findT r.entries id from (if_pos hc).trans (if_pos hf)]
      exact ⟨hf, rfl⟩
    · rw [if_neg hf] at h
      split at h
      · rename_i he
        rw [show lrnR r id q p = rputR r (.new id q p) from (if_pos hc).trans ((if_neg hf).trans (if_pos he.1)), show lrnE r id q p = .new id q p from (if_pos hc).trans ((if_neg hf).trans (if_pos he)), rputR_yes he.2]
        exact (put_find (rep_ents hc.1).1 id).1 rfl
      · cases h
  · cases h
theorem lrn_ent {r : Rpl} {id q : Int} {p : ByteArray} (h : lrnB r id q p = true) : entB (lrnE r id q p) = true := by
  obtain ⟨h1, h2⟩ := lrn_find h
  rw [← h2]
  exact (ents_pw.1 (rep_ents (lrn_rep h)).1).2.1 _ (find_mem h1).1
theorem lrn_id {r : Rpl} {id q : Int} {p : ByteArray} (h : lrnB r id q p = true) : (lrnE r id q p).id = id := by
  obtain ⟨h1, h2⟩ := lrn_find h
  rw [← h2]
  exact (find_mem h1).2
theorem lrn_self {r : Rpl} {id q : Int} {p : ByteArray} : (lrnR r id q p).self = r.self := (lrn_stays r id q p).self
theorem cmt_stays (r : Rpl) (e : Ent) (t : Int) : Stays r (cmtR r e t) := by
  unfold cmtR
  split
  · exact bmp_stays _ _ _
  · exact .refl r
theorem ansO_self {r s : Rpl} {m : Msg} {k b : Int} (h : s.self = r.self) : ansO s m k b = ansO r m k b := by
  unfold ansO ansM
  rw [h]
theorem find_ent {r : Rpl} {id : Int} (h : repB r = true) (hf : findB r.entries id = true) : entB (findT r.entries id) = true := (ents_pw.1 (rep_ents h).1).2.1 _ (find_mem hf).1
end Go.Proofs.YtbjepdfnmbdplaaGreat
end
section
namespace Go.Proofs.YtbjepdfnmbdplaaGreat
open Go.RowKit
set_option linter.unusedSimpArgs false
set_option linter.unusedVariables false
set_option maxRecDepth 100000
set_option maxHeartbeats 4000000
instance refonaccept_spec (r : Rpl) (m : Msg) : HasSpec Tryz.prog 15 [.agg r.cs, .agg m.cs] (.tup [.agg (onAcc r m).1.cs, PV.outs (onAcc r m).2]) := by
  have jh := refhears26_spec r m
  have jl := reflearn_spec r m.id m.quorum m.payload
  by_cases hk : m.kind = 3
  · cases hh : hearsB r m with
    | false =>
      rw [hh] at jh
      rw [onAcc_no (fun h => by rw [hh] at h; cases h.2.2.1)]
      refine ⟨?_⟩; refine Spec.ofR (h := fun F w0 => ?_)
      repeat' ((conv => whnf); first | refine Q.E ?_ | (refine Stk.both (fun hb => ?_) (fun hb => ?_) <;> (try simp only [lE] at hb))); all_goals (conv => whnf)
      ((refine FinK.of (h := ?_)); (repeat' (first | exact FinL.nil | refine FinL.cons ?_ ?_ | refine Fin'.tup ?_ | exact Q.f3 | exact Q.f4 | exact Q.f5 | exact Q.f6 | refine Fin'.vb ?_ | refine Fin'.vi ?_ | refine Fin'.agg ?_)))
    | true =>
      rw [hh] at jh
      by_cases ho : ownI m.bal r.n = m.fr
      · cases hl : lrnB r m.id m.quorum m.payload with
        | false =>
          rw [hl] at jl
          rw [onAcc_no (fun h => by rw [hl] at h; cases h.2.2.2)]
          generalize lrnR r m.id m.quorum m.payload = s at *
          generalize lrnE r m.id m.quorum m.payload = e at *
          refine ⟨?_⟩; refine Spec.ofR (h := fun F w0 => ?_)
          repeat' ((conv => whnf); first | refine Q.E ?_ | (refine Stk.both (fun hb => ?_) (fun hb => ?_) <;> (try simp only [lE] at hb))); all_goals (conv => whnf)
          ((refine FinK.of (h := ?_)); (repeat' (first | exact FinL.nil | refine FinL.cons ?_ ?_ | refine Fin'.tup ?_ | exact Q.f3 | exact Q.f4 | exact Q.f5 | exact Q.f6 | refine Fin'.vb ?_ | refine Fin'.vi ?_ | refine Fin'.agg ?_)))
        | true =>
          rw [hl] at jl
          rw [onAcc_in ⟨ho, hk, hh, hl⟩ rfl rfl]
          have hen := lrn_ent hl
          have hsr := lrn_rep hl
          have hsf := lrn_self (r := r) (id := m.id) (q := m.quorum) (p := m.payload)
          clear hl
          generalize lrnR r m.id m.quorum m.payload = s at *
          generalize lrnE r m.id m.quorum m.payload = e at *
          have hph := ent_facts hen
          cases hp : settB e.phase with
          | true =>
            have hp5 := settB_iff.1 hp
            rw [if_pos rfl]
            have jo := refhelp_spec s e m.fr
            generalize helpO s e m.fr = o at *
            refine ⟨?_⟩; refine Spec.ofR (h := fun F w0 => ?_)
            repeat' ((conv => whnf); first | refine Q.E ?_ | (refine Stk.both (fun hb => ?_) (fun hb => ?_) <;> (try simp only [lE] at hb))); all_goals (conv => whnf)
            ((refine FinK.of (h := ?_)); (repeat' (first | exact FinL.nil | refine FinL.cons ?_ ?_ | refine Fin'.tup ?_ | exact Q.f3 | exact Q.f4 | exact Q.f5 | exact Q.f6 | refine Fin'.vb ?_ | refine Fin'.vi ?_ | refine Fin'.agg ?_)))
          | false =>
            have hp5 : ¬ (e.phase = 5 ∨ e.phase = 6) := fun h => by rw [settB_iff.2 h] at hp; cases hp
            rw [if_neg (by simp)]
            by_cases hb : m.bal < e.bal
            · rw [if_pos hb]
              have jw := ans27_spec s m 8 e.bal
              rw [ansO_self (s := s) (r := r) hsf] at jw
              generalize ansO r m 8 e.bal = o at *
              refine ⟨?_⟩; refine Spec.ofR (h := fun F w0 => ?_)
              repeat' ((conv => whnf); first | refine Q.E ?_ | (refine Stk.both (fun hb => ?_) (fun hb => ?_) <;> (try simp only [lE] at hb))); all_goals (conv => whnf)
              ((refine FinK.of (h := ?_)); (repeat' (first | exact FinL.nil | refine FinL.cons ?_ ?_ | refine Fin'.tup ?_ | exact Q.f3 | exact Q.f4 | exact Q.f5 | exact Q.f6 | refine Fin'.vb ?_ | refine Fin'.vi ?_ | refine Fin'.agg ?_)))
            · rw [if_neg hb]
              have ja := refaccept_spec e m.t m.bal
              have ju := refput_spec s (accE e m.t m.bal)
              by_cases hx : accX e m.t m.bal = 0
              · by_cases hy : rputX s (accE e m.t m.bal) = 0
                · rw [if_pos ⟨hx, hy⟩, show bmpR s (accE e m.t m.bal) m.t = { s with entries := putE s.entries (accE e m.t m.bal), clock := bumpI s.clock m.t } from if_pos hy]
                  rw [hy, rputR_yes hy] at ju
                  clear hy
                  generalize accX e m.t m.bal = x at *
                  generalize accE e m.t m.bal = c at *
                  generalize putE s.entries c = L at *
                  have jw := ans27_spec { s with entries := L, clock := bumpI s.clock m.t } m 4 m.bal
                  rw [ansO_self (s := { s with entries := L, clock := bumpI s.clock m.t }) (r := r) hsf] at jw
                  generalize ansO r m 4 m.bal = o at *
                  refine ⟨?_⟩; refine Spec.ofR (h := fun F w0 => ?_)
                  repeat' ((conv => whnf); first | refine Q.E ?_ | (refine Stk.both (fun hb => ?_) (fun hb => ?_) <;> (try simp only [lE] at hb))); all_goals (conv => whnf)
                  refine Stk.by jw (h := ?_)
                  repeat' ((conv => whnf); first | refine Q.E ?_ | (refine Stk.both (fun hb => ?_) (fun hb => ?_) <;> (try simp only [lE] at hb))); all_goals (conv => whnf)
                  ((refine FinK.of (h := ?_)); (repeat' (first | exact FinL.nil | refine FinL.cons ?_ ?_ | refine Fin'.tup ?_ | exact Q.f3 | exact Q.f4 | exact Q.f5 | exact Q.f6 | refine Fin'.vb ?_ | refine Fin'.vi ?_ | refine Fin'.agg ?_)))
                · rw [if_neg (fun h => hy h.2)]
                  generalize accX e m.t m.bal = x at *
                  generalize accE e m.t m.bal = c at *
                  generalize rputX s c = y at *
                  generalize rputR s c = u at *
                  refine ⟨?_⟩; refine Spec.ofR (h := fun F w0 => ?_)
                  repeat' ((conv => whnf); first | refine Q.E ?_ | (refine Stk.both (fun hb => ?_) (fun hb => ?_) <;> (try simp only [lE] at hb))); all_goals (conv => whnf)
                  ((refine FinK.of (h := ?_)); (repeat' (first | exact FinL.nil | refine FinL.cons ?_ ?_ | refine Fin'.tup ?_ | exact Q.f3 | exact Q.f4 | exact Q.f5 | exact Q.f6 | refine Fin'.vb ?_ | refine Fin'.vi ?_ | refine Fin'.agg ?_)))
              · rw [if_neg (fun h => hx h.1)]
                generalize accX e m.t m.bal = x at *
                generalize accE e m.t m.bal = c at *
                generalize rputX s c = y at *
                generalize rputR s c = u at *
                refine ⟨?_⟩; refine Spec.ofR (h := fun F w0 => ?_)
                repeat' ((conv => whnf); first | refine Q.E ?_ | (refine Stk.both (fun hb => ?_) (fun hb => ?_) <;> (try simp only [lE] at hb))); all_goals (conv => whnf)
                ((refine FinK.of (h := ?_)); (repeat' (first | exact FinL.nil | refine FinL.cons ?_ ?_ | refine Fin'.tup ?_ | exact Q.f3 | exact Q.f4 | exact Q.f5 | exact Q.f6 | refine Fin'.vb ?_ | refine Fin'.vi ?_ | refine Fin'.agg ?_)))
      · rw [onAcc_no (fun h => ho h.1)]
        refine ⟨?_⟩; refine Spec.ofR (h := fun F w0 => ?_)
        repeat' ((conv => whnf); first | refine Q.E ?_ | (refine Stk.both (fun hb => ?_) (fun hb => ?_) <;> (try simp only [lE] at hb))); all_goals (conv => whnf)
        ((refine FinK.of (h := ?_)); (repeat' (first | exact FinL.nil | refine FinL.cons ?_ ?_ | refine Fin'.tup ?_ | exact Q.f3 | exact Q.f4 | exact Q.f5 | exact Q.f6 | refine Fin'.vb ?_ | refine Fin'.vi ?_ | refine Fin'.agg ?_)))
  · rw [onAcc_no (fun h => hk h.2.1)]
    refine ⟨?_⟩; refine Spec.ofR (h := fun F w0 => ?_)
    repeat' ((conv => whnf); first | refine Q.E ?_ | (refine Stk.both (fun hb => ?_) (fun hb => ?_) <;> (try simp only [lE] at hb))); all_goals (conv => whnf)
    ((refine FinK.of (h := ?_)); (repeat' (first | exact FinL.nil | refine FinL.cons ?_ ?_ | refine Fin'.tup ?_ | exact Q.f3 | exact Q.f4 | exact Q.f5 | exact Q.f6 | refine Fin'.vb ?_ | refine Fin'.vi ?_ | refine Fin'.agg ?_)))
theorem onCmt_no {r : Rpl} {m : Msg} (h : ¬ (m.kind = 5 ∧ hearsB r m = true ∧ lrnB r m.id m.quorum m.payload = true)) : onCmt r m = (r, []) := if_neg h
theorem onCmt_in {r : Rpl} {m : Msg} (h : m.kind = 5 ∧ hearsB r m = true ∧ lrnB r m.id m.quorum m.payload = true) {s : Rpl} {e : Ent} (hs : lrnR r m.id m.quorum m.payload = s) (he : lrnE r m.id m.quorum m.payload = e) : onCmt r m = (if settB e.phase = true then (s, [])
    else if cmtB s e m.t = true then (cmtR s e m.t, []) else (r, [])) := by
  subst hs he
  exact if_pos h
instance oncommit_spec (r : Rpl) (m : Msg) : HasSpec Tryz.prog 20 [.agg r.cs, .agg m.cs] (.tup [.agg (onCmt r m).1.cs, PV.outs (onCmt r m).2]) := by
  have jh := hears26_spec r m
  have jl := learn_spec r m.id m.quorum m.payload
  refine ⟨?_⟩; refine Spec.ofR (h := fun F w0 => ?_)
  conv => whnf
  refine Stk.weakC (Weak.trans (Weak.ren 2 102 rfl rfl rfl) (Weak.trans (Weak.ren 3 103 rfl rfl rfl) (Weak.trans (Weak.ren 4 104 rfl rfl rfl) (Weak.gc (env' := [(8, .agg m.cs), (7, .agg r.cs), (2, .lp 102 0), (3, .lp 103 0), (4, .lp 104 0)]) (lh' := [(102, .box r.cs), (103, .box m.cs), (104, .box zeroR)]) ⟨rfl, rfl, rfl, rfl, rfl, trivial⟩ ⟨rfl, rfl, rfl, trivial⟩ rfl rfl rfl)))) ?_
  conv => whnf
  refine Stk.inl (h := fun tm => ?_)
  repeat' ((conv => whnf); first | refine Q.E ?_ | (refine Stk.both (fun hb => ?_) (fun hb => ?_) <;> (try simp only [lE] at hb))); all_goals (conv => whnf)
  refine Stk.weakC (Weak.trans (Weak.ren 3 203 rfl rfl rfl) (Weak.trans (Weak.ren 4 204 rfl rfl rfl) (Weak.trans (Weak.ren 5 205 rfl rfl rfl) (Weak.gc (env' := [(10, (.fn (.func 123) [] [.lp 204 0, .lp 205 0, .lp 203 0])), (11, (.fn (.func 82) [] [.lp 103 0, .lp 102 0])), (4, .lp 104 0)]) (lh' := [(203, .box r.cs), (204, .box m.cs), (205, .box [PV.int 5]), (102, .box r.cs), (103, .box m.cs), (104, .box zeroR)]) ⟨rfl, rfl, rfl, trivial⟩ ⟨rfl, rfl, rfl, rfl, rfl, rfl, trivial⟩ rfl rfl rfl)))) ?_
  by_cases hk : m.kind = 5
  · cases hh : hearsB r m with
    | false =>
      rw [hh] at jh
      rw [onCmt_no (fun h => by rw [hh] at h; cases h.2.1)]
      conv => whnf
      refine Stk.inl (h := fun tm => ?_)
      repeat' ((conv => whnf); first | refine Q.E ?_ | (refine Stk.both (fun hb => ?_) (fun hb => ?_) <;> (try simp only [lE] at hb))); all_goals (conv => whnf)
      ((refine FinK.of (h := ?_)); (repeat' (first | exact FinL.nil | refine FinL.cons ?_ ?_ | refine Fin'.tup ?_ | exact Q.f3 | exact Q.f4 | exact Q.f5 | exact Q.f6 | refine Fin'.vb ?_ | refine Fin'.vi ?_ | refine Fin'.agg ?_)))
    | true =>
      rw [hh] at jh
      cases hl : lrnB r m.id m.quorum m.payload with
      | false =>
        rw [hl] at jl
        rw [onCmt_no (fun h => by rw [hl] at h; cases h.2.2)]
        generalize lrnR r m.id m.quorum m.payload = s at *
        generalize lrnE r m.id m.quorum m.payload = e at *
        conv => whnf
        refine Stk.inl (h := fun tm => ?_)
        repeat' ((conv => whnf); first | refine Q.E ?_ | (refine Stk.both (fun hb => ?_) (fun hb => ?_) <;> (try simp only [lE] at hb))); all_goals (conv => whnf)
        ((refine FinK.of (h := ?_)); (repeat' (first | exact FinL.nil | refine FinL.cons ?_ ?_ | refine Fin'.tup ?_ | exact Q.f3 | exact Q.f4 | exact Q.f5 | exact Q.f6 | refine Fin'.vb ?_ | refine Fin'.vi ?_ | refine Fin'.agg ?_)))
      | true =>
        rw [hl] at jl
        rw [onCmt_in ⟨hk, hh, hl⟩ rfl rfl]
        clear hl
        generalize lrnR r m.id m.quorum m.payload = s at *
        generalize lrnE r m.id m.quorum m.payload = e at *
        have jp := phasesett_spec e.phase
        have jc := ocommit_spec s e m.t
        conv => whnf
        refine Stk.inl (h := fun tm => ?_)
        repeat' ((conv => whnf); first | refine Q.E ?_ | (refine Stk.both (fun hb => ?_) (fun hb => ?_) <;> (try simp only [lE] at hb))); all_goals (conv => whnf)
        refine Stk.weakC (Weak.trans (Weak.ren 5 305 rfl rfl rfl) (Weak.trans (Weak.ren 7 307 rfl rfl rfl) (Weak.trans (Weak.ren 8 308 rfl rfl rfl) (Weak.gc (env' := [(36, (.fn (.func 82) [] [.lp 103 0, .lp 102 0])), (37, .agg s.cs), (38, .agg e.cs), (5, .lp 305 0)]) (lh' := [(305, .box zeroR), (203, .box r.cs), (204, .box m.cs), (205, .box [PV.int 5]), (102, .box r.cs), (103, .box m.cs), (104, .box zeroR)]) ⟨rfl, rfl, rfl, rfl, trivial⟩ ⟨rfl, rfl, rfl, rfl, rfl, rfl, rfl, trivial⟩ rfl rfl rfl)))) ?_
        cases hp : settB e.phase with
        | true =>
          rw [hp] at jp
          rw [if_pos rfl]
          conv => whnf
          refine Stk.inl (h := fun tm => ?_)
          repeat' ((conv => whnf); first | refine Q.E ?_ | (refine Stk.both (fun hb => ?_) (fun hb => ?_) <;> (try simp only [lE] at hb))); all_goals (conv => whnf)
          ((refine FinK.of (h := ?_)); (repeat' (first | exact FinL.nil | refine FinL.cons ?_ ?_ | refine Fin'.tup ?_ | exact Q.f3 | exact Q.f4 | exact Q.f5 | exact Q.f6 | refine Fin'.vb ?_ | refine Fin'.vi ?_ | refine Fin'.agg ?_)))
        | false =>
          rw [hp] at jp
          rw [if_neg (by simp)]
          cases hc : cmtB s e m.t with
          | true =>
            rw [hc] at jc
            rw [if_pos rfl]
            generalize cmtR s e m.t = u at *
            conv => whnf
            refine Stk.inl (h := fun tm => ?_)
            repeat' ((conv => whnf); first | refine Q.E ?_ | (refine Stk.both (fun hb => ?_) (fun hb => ?_) <;> (try simp only [lE] at hb))); all_goals (conv => whnf)
            ((refine FinK.of (h := ?_)); (repeat' (first | exact FinL.nil | refine FinL.cons ?_ ?_ | refine Fin'.tup ?_ | exact Q.f3 | exact Q.f4 | exact Q.f5 | exact Q.f6 | refine Fin'.vb ?_ | refine Fin'.vi ?_ | refine Fin'.agg ?_)))
          | false =>
            rw [hc] at jc
            rw [if_neg (by simp)]
            generalize cmtR s e m.t = u at *
            conv => whnf
            refine Stk.inl (h := fun tm => ?_)
            repeat' ((conv => whnf); first | refine Q.E ?_ | (refine Stk.both (fun hb => ?_) (fun hb => ?_) <;> (try simp only [lE] at hb))); all_goals (conv => whnf)
            ((refine FinK.of (h := ?_)); (repeat' (first | exact FinL.nil | refine FinL.cons ?_ ?_ | refine Fin'.tup ?_ | exact Q.f3 | exact Q.f4 | exact Q.f5 | exact Q.f6 | refine Fin'.vb ?_ | refine Fin'.vi ?_ | refine Fin'.agg ?_)))
  · rw [onCmt_no (fun h => hk h.1)]
    conv => whnf
    refine Stk.inl (h := fun tm => ?_)
    repeat' ((conv => whnf); first | refine Q.E ?_ | (refine Stk.both (fun hb => ?_) (fun hb => ?_) <;> (try simp only [lE] at hb))); all_goals (conv => whnf)
    ((refine FinK.of (h := ?_)); (repeat' (first | exact FinL.nil | refine FinL.cons ?_ ?_ | refine Fin'.tup ?_ | exact Q.f3 | exact Q.f4 | exact Q.f5 | exact Q.f6 | refine Fin'.vb ?_ | refine Fin'.vi ?_ | refine Fin'.agg ?_)))
instance refoncommit_spec (r : Rpl) (m : Msg) : HasSpec Tryz.prog 21 [.agg r.cs, .agg m.cs] (.tup [.agg (onCmt r m).1.cs, PV.outs (onCmt r m).2]) := by
  have jh := refhears26_spec r m
  have jl := reflearn_spec r m.id m.quorum m.payload
  by_cases hk : m.kind = 5
  · cases hh : hearsB r m with
    | false =>
      rw [hh] at jh
      rw [onCmt_no (fun h => by rw [hh] at h; cases h.2.1)]
      refine ⟨?_⟩; refine Spec.ofR (h := fun F w0 => ?_)
      repeat' ((conv => whnf); first | refine Q.E ?_ | (refine Stk.both (fun hb => ?_) (fun hb => ?_) <;> (try simp only [lE] at hb))); all_goals (conv => whnf)
      ((refine FinK.of (h := ?_)); (repeat' (first | exact FinL.nil | refine FinL.cons ?_ ?_ | refine Fin'.tup ?_ | exact Q.f3 | exact Q.f4 | exact Q.f5 | exact Q.f6 | refine Fin'.vb ?_ | refine Fin'.vi ?_ | refine Fin'.agg ?_)))
    | true =>
      rw [hh] at jh
      cases hl : lrnB r m.id m.quorum m.payload with
      | false =>
        rw [hl] at jl
        rw [onCmt_no (fun h => by rw [hl] at h; cases h.2.2)]
        generalize lrnR r m.id m.quorum m.payload = s at *
        generalize lrnE r m.id m.quorum m.payload = e at *
        refine ⟨?_⟩; refine Spec.ofR (h := fun F w0 => ?_)
        repeat' ((conv => whnf); first | refine Q.E ?_ | (refine Stk.both (fun hb => ?_) (fun hb => ?_) <;> (try simp only [lE] at hb))); all_goals (conv => whnf)
        ((refine FinK.of (h := ?_)); (repeat' (first | exact FinL.nil | refine FinL.cons ?_ ?_ | refine Fin'.tup ?_ | exact Q.f3 | exact Q.f4 | exact Q.f5 | exact Q.f6 | refine Fin'.vb ?_ | refine Fin'.vi ?_ | refine Fin'.agg ?_)))
      | true =>
        rw [hl] at jl
        rw [onCmt_in ⟨hk, hh, hl⟩ rfl rfl]
        have hen := lrn_ent hl
        clear hl
        generalize lrnR r m.id m.quorum m.payload = s at *
        generalize lrnE r m.id m.quorum m.payload = e at *
        have hph := ent_facts hen
        have jc := refcommit26_spec s e m.t
        cases hp : settB e.phase with
        | true =>
          have hp5 := settB_iff.1 hp
          rw [if_pos rfl]
          refine ⟨?_⟩; refine Spec.ofR (h := fun F w0 => ?_)
          repeat' ((conv => whnf); first | refine Q.E ?_ | (refine Stk.both (fun hb => ?_) (fun hb => ?_) <;> (try simp only [lE] at hb))); all_goals (conv => whnf)
          ((refine FinK.of (h := ?_)); (repeat' (first | exact FinL.nil | refine FinL.cons ?_ ?_ | refine Fin'.tup ?_ | exact Q.f3 | exact Q.f4 | exact Q.f5 | exact Q.f6 | refine Fin'.vb ?_ | refine Fin'.vi ?_ | refine Fin'.agg ?_)))
        | false =>
          have hp5 : ¬ (e.phase = 5 ∨ e.phase = 6) := fun h => by rw [settB_iff.2 h] at hp; cases hp
          rw [if_neg (by simp)]
          cases hc : cmtB s e m.t with
          | true =>
            rw [hc] at jc
            rw [if_pos rfl]
            generalize cmtR s e m.t = u at *
            refine ⟨?_⟩; refine Spec.ofR (h := fun F w0 => ?_)
            repeat' ((conv => whnf); first | refine Q.E ?_ | (refine Stk.both (fun hb => ?_) (fun hb => ?_) <;> (try simp only [lE] at hb))); all_goals (conv => whnf)
            ((refine FinK.of (h := ?_)); (repeat' (first | exact FinL.nil | refine FinL.cons ?_ ?_ | refine Fin'.tup ?_ | exact Q.f3 | exact Q.f4 | exact Q.f5 | exact Q.f6 | refine Fin'.vb ?_ | refine Fin'.vi ?_ | refine Fin'.agg ?_)))
          | false =>
            rw [hc] at jc
            rw [if_neg (by simp)]
            generalize cmtR s e m.t = u at *
            refine ⟨?_⟩; refine Spec.ofR (h := fun F w0 => ?_)
            repeat' ((conv => whnf); first | refine Q.E ?_ | (refine Stk.both (fun hb => ?_) (fun hb => ?_) <;> (try simp only [lE] at hb))); all_goals (conv => whnf)
            ((refine FinK.of (h := ?_)); (repeat' (first | exact FinL.nil | refine FinL.cons ?_ ?_ | refine Fin'.tup ?_ | exact Q.f3 | exact Q.f4 | exact Q.f5 | exact Q.f6 | refine Fin'.vb ?_ | refine Fin'.vi ?_ | refine Fin'.agg ?_)))
  · rw [onCmt_no (fun h => hk h.1)]
    refine ⟨?_⟩; refine Spec.ofR (h := fun F w0 => ?_)
    repeat' ((conv => whnf); first | refine Q.E ?_ | (refine Stk.both (fun hb => ?_) (fun hb => ?_) <;> (try simp only [lE] at hb))); all_goals (conv => whnf)
    ((refine FinK.of (h := ?_)); (repeat' (first | exact FinL.nil | refine FinL.cons ?_ ?_ | refine Fin'.tup ?_ | exact Q.f3 | exact Q.f4 | exact Q.f5 | exact Q.f6 | refine Fin'.vb ?_ | refine Fin'.vi ?_ | refine Fin'.agg ?_)))
end Go.Proofs.YtbjepdfnmbdplaaGreat
end
section
namespace Go.Proofs.YtbjepdfnmbdplaaGreat
open Go.RowKit
set_option linter.unusedSimpArgs false
set_option linter.unusedVariables false
set_option maxRecDepth 100000
set_option maxHeartbeats 4000000
theorem allO_from {r : Rpl} {m m' : Msg} (h : m.from r.self = m'.from r.self) : allO r m = allO r m' := by
  unfold allO
  rw [h]
def Msg.raw (m : Msg) : List PV := [PV.int m.kind, PV.int m.fr, PV.int m.id, PV.int m.t, PV.int m.bal, PV.int m.abal, PV.int m.phase, PV.int m.quorum, .v (.string m.payload), PV.int m.lo, PV.int m.hi, .v (.slice none 0 0), .v (.slice none 0 0), PV.int m.done]
theorem msg_sub {m : Msg} (h1 : m.atts = []) (h2 : m.marks = []) : Sub (.agg m.raw) (.agg m.cs) := by
  unfold Msg.raw Msg.cs
  rw [h1, h2]
  exact .agg (.cons (.refl _) (.cons (.refl _) (.cons (.refl _) (.cons (.refl _) (.cons (.refl _) (.cons (.refl _) (.cons (.refl _) (.cons (.refl _) (.cons (.refl _) (.cons (.refl _) (.cons (.refl _) (.cons (.nil _) (.cons (.nil _) (.cons (.refl _) .nil))))))))))))))
theorem refall_raw (r : Rpl) {m : Msg} (h1 : m.atts = []) (h2 : m.marks = []) : HasSpec Tryz.prog 81 [.agg r.cs, .agg m.raw] (PV.outs (allO r m)) := HasSpec.sub (.cons (.refl _) (.cons (msg_sub h1 h2) .nil)) (refall_spec r m)
theorem onAcd_no {r : Rpl} {m : Msg} (h : ¬ (m.kind = 4 ∧ hearsB r m = true ∧ ownI m.bal r.n = r.self ∧ findB r.entries m.id = true)) : onAcd r m = (r, []) := if_neg h
theorem onAcd_in {r : Rpl} {m : Msg} (h : m.kind = 4 ∧ hearsB r m = true ∧ ownI m.bal r.n = r.self ∧ findB r.entries m.id = true) {e : Ent} (he : findT r.entries m.id = e) : onAcd r m = (if openB e.phase = true ∧ e.bal = m.bal ∧ e.abal = m.bal ∧ ackB e (accA m) = true ∧ rputX r (ackR e (accA m)) = 0 then
      (if wonB (ackR e (accA m)) m.bal r.f = true then (if cmtB (rputR r (ackR e (accA m))) (ackR e (accA m)) (ackR e (accA m)).t = true then (cmtR (rputR r (ackR e (accA m))) (ackR e (accA m)) (ackR e (accA m)).t, allO (cmtR (rputR r (ackR e (accA m))) (ackR e (accA m)) (ackR e (accA m)).t) (tolM r (ackR e (accA m)))) else (r, []))
      else (rputR r (ackR e (accA m)), []))
    else (r, [])) := by
  subst he
  exact if_pos h
theorem hears_rep {r : Rpl} {m : Msg} (h : hearsB r m = true) : repB r = true ∧ msgB m = true ∧ m.fr ≤ r.n ∧ m.fr ≠ r.self ∧ selfI m.id ≤ r.n := by
  unfold hearsB at h
  rw [Bool.and_eq_true, Bool.and_eq_true, decide_eq_true_iff] at h
  exact ⟨h.1.1, h.1.2, h.2.1, h.2.2.1, h.2.2.2.1⟩
theorem ent_acks {e : Ent} (h : entB e = true) : e.acks.length ≤ 27 := acksB_len (acks_of h)
theorem ack_len (e : Ent) (a : Ack) (h : entB e = true) : (ackR e a).acks.length ≤ 1000000 := by
  have := ent_acks h
  unfold ackR
  split
  · show (e.acks ++ [a]).length ≤ 1000000
    rw [List.length_append, List.length_singleton]
    omega
  · omega
instance onaccepted_spec (r : Rpl) (m : Msg) : HasSpec Tryz.prog 18 [.agg r.cs, .agg m.cs] (.tup [.agg (onAcd r m).1.cs, PV.outs (onAcd r m).2]) := by
  have jh := hears26_spec r m
  by_cases hk : m.kind = 4
  · cases hh : hearsB r m with
    | false =>
      rw [hh] at jh
      rw [onAcd_no (fun h => by rw [hh] at h; cases h.2.1)]
      refine ⟨?_⟩; refine Spec.ofR (h := fun F w0 => ?_)
      repeat' ((conv => whnf); first | refine Q.E ?_ | (refine Stk.both (fun hb => ?_) (fun hb => ?_) <;> (try simp only [lE] at hb))); all_goals (conv => whnf)
      ((refine FinK.of (h := ?_)); (repeat' (first | exact FinL.nil | refine FinL.cons ?_ ?_ | refine Fin'.tup ?_ | exact Q.f3 | exact Q.f4 | exact Q.f5 | exact Q.f6 | refine Fin'.vb ?_ | refine Fin'.vi ?_ | refine Fin'.agg ?_)))
    | true =>
      rw [hh] at jh
      by_cases ho : ownI m.bal r.n = r.self
      · have jf := tablefind_spec r.entries m.id
        cases hf : findB r.entries m.id with
        | false =>
          rw [hf] at jf
          rw [onAcd_no (fun h => by rw [hf] at h; cases h.2.2.2)]
          generalize findT r.entries m.id = e at *
          refine ⟨?_⟩; refine Spec.ofR (h := fun F w0 => ?_)
          repeat' ((conv => whnf); first | refine Q.E ?_ | (refine Stk.both (fun hb => ?_) (fun hb => ?_) <;> (try simp only [lE] at hb))); all_goals (conv => whnf)
          ((refine FinK.of (h := ?_)); (repeat' (first | exact FinL.nil | refine FinL.cons ?_ ?_ | refine Fin'.tup ?_ | exact Q.f3 | exact Q.f4 | exact Q.f5 | exact Q.f6 | refine Fin'.vb ?_ | refine Fin'.vi ?_ | refine Fin'.agg ?_)))
        | true =>
          rw [hf] at jf
          rw [onAcd_in ⟨hk, hh, ho, hf⟩ rfl]
          have hen := find_ent (hears_rep hh).1 hf
          clear hf
          generalize findT r.entries m.id = e at *
          by_cases hc : openB e.phase = true ∧ e.bal = m.bal ∧ e.abal = m.bal
          · have hc1 := openB_iff.1 hc.1
            have hc2 := hc.2
            have jp := phaseopen_spec e.phase
            rw [hc.1] at jp
            have ja : HasSpec Tryz.prog 72 [.agg e.cs, .agg [PV.int 2, PV.int m.fr, PV.int m.bal, PV.int 0, PV.int 0, PV.int 0]] (.tup [.agg (ackR e (accA m)).cs, .v (.bool (ackB e (accA m)))]) := entryack_spec e (accA m)
            have ju := put_spec r (ackR e (accA m))
            cases hb : ackB e (accA m) with
            | false =>
              rw [hb] at ja
              rw [if_neg (fun h => by cases h.2.2.2.1)]
              generalize ackR e (accA m) = a at *
              generalize rputX r a = x at *
              generalize rputR r a = s at *
              refine ⟨?_⟩; refine Spec.ofR (h := fun F w0 => ?_)
              repeat' ((conv => whnf); first | refine Q.E ?_ | (refine Stk.both (fun hb => ?_) (fun hb => ?_) <;> (try simp only [lE] at hb))); all_goals (conv => whnf)
              ((refine FinK.of (h := ?_)); (repeat' (first | exact FinL.nil | refine FinL.cons ?_ ?_ | refine Fin'.tup ?_ | exact Q.f3 | exact Q.f4 | exact Q.f5 | exact Q.f6 | refine Fin'.vb ?_ | refine Fin'.vi ?_ | refine Fin'.agg ?_)))
            | true =>
              rw [hb] at ja
              by_cases hx : rputX r (ackR e (accA m)) = 0
              · rw [if_pos ⟨hc.1, hc.2.1, hc.2.2, rfl, hx⟩]
                have jw := won_spec (ackR e (accA m)) m.bal r.f (ack_len e _ hen)
                have jc := ocommit_spec (rputR r (ackR e (accA m))) (ackR e (accA m)) (ackR e (accA m)).t
                have hst := (rput_stays r (ackR e (accA m))).trans (cmt_stays (rputR r (ackR e (accA m))) (ackR e (accA m)) (ackR e (accA m)).t)
                generalize ackR e (accA m) = a at *
                generalize rputX r a = x at *
                generalize rputR r a = s at *
                cases hw : wonB a m.bal r.f with
                | false =>
                  rw [hw] at jw
                  rw [if_neg (by simp)]
                  refine ⟨?_⟩; refine Spec.ofR (h := fun F w0 => ?_)
                  repeat' ((conv => whnf); first | refine Q.E ?_ | (refine Stk.both (fun hb => ?_) (fun hb => ?_) <;> (try simp only [lE] at hb))); all_goals (conv => whnf)
                  ((refine FinK.of (h := ?_)); (repeat' (first | exact FinL.nil | refine FinL.cons ?_ ?_ | refine Fin'.tup ?_ | exact Q.f3 | exact Q.f4 | exact Q.f5 | exact Q.f6 | refine Fin'.vb ?_ | refine Fin'.vi ?_ | refine Fin'.agg ?_)))
                | true =>
                  rw [hw] at jw
                  rw [if_pos rfl]
                  cases hcm : cmtB s a a.t with
                  | false =>
                    rw [hcm] at jc
                    rw [if_neg (by simp)]
                    generalize cmtR s a a.t = u at *
                    refine ⟨?_⟩; refine Spec.ofR (h := fun F w0 => ?_)
                    repeat' ((conv => whnf); first | refine Q.E ?_ | (refine Stk.both (fun hb => ?_) (fun hb => ?_) <;> (try simp only [lE] at hb))); all_goals (conv => whnf)
                    ((refine FinK.of (h := ?_)); (repeat' (first | exact FinL.nil | refine FinL.cons ?_ ?_ | refine Fin'.tup ?_ | exact Q.f3 | exact Q.f4 | exact Q.f5 | exact Q.f6 | refine Fin'.vb ?_ | refine Fin'.vi ?_ | refine Fin'.agg ?_)))
                  | true =>
                    rw [hcm] at jc
                    rw [if_pos rfl]
                    generalize cmtR s a a.t = u at *
                    have jo := all_spec u (tolM u a)
                    rw [allO_from (r := u) (m := tolM u a) (m' := tolM r a) rfl] at jo
                    generalize allO u (tolM r a) = o at *
                    refine ⟨?_⟩; refine Spec.ofR (h := fun F w0 => ?_)
                    repeat' ((conv => whnf); first | refine Q.E ?_ | (refine Stk.both (fun hb => ?_) (fun hb => ?_) <;> (try simp only [lE] at hb))); all_goals (conv => whnf)
                    ((refine FinK.of (h := ?_)); (repeat' (first | exact FinL.nil | refine FinL.cons ?_ ?_ | refine Fin'.tup ?_ | exact Q.f3 | exact Q.f4 | exact Q.f5 | exact Q.f6 | refine Fin'.vb ?_ | refine Fin'.vi ?_ | refine Fin'.agg ?_)))
              · rw [if_neg (fun h => hx h.2.2.2.2)]
                generalize ackR e (accA m) = a at *
                generalize rputX r a = x at *
                generalize rputR r a = s at *
                refine ⟨?_⟩; refine Spec.ofR (h := fun F w0 => ?_)
                repeat' ((conv => whnf); first | refine Q.E ?_ | (refine Stk.both (fun hb => ?_) (fun hb => ?_) <;> (try simp only [lE] at hb))); all_goals (conv => whnf)
                ((refine FinK.of (h := ?_)); (repeat' (first | exact FinL.nil | refine FinL.cons ?_ ?_ | refine Fin'.tup ?_ | exact Q.f3 | exact Q.f4 | exact Q.f5 | exact Q.f6 | refine Fin'.vb ?_ | refine Fin'.vi ?_ | refine Fin'.agg ?_)))
          · rw [if_neg (fun h => hc ⟨h.1, h.2.1, h.2.2.1⟩)]
            have jp := phaseopen_spec e.phase
            cases hop : openB e.phase with
            | false =>
              rw [hop] at jp
              refine ⟨?_⟩; refine Spec.ofR (h := fun F w0 => ?_)
              repeat' ((conv => whnf); first | refine Q.E ?_ | (refine Stk.both (fun hb => ?_) (fun hb => ?_) <;> (try simp only [lE] at hb))); all_goals (conv => whnf)
              ((refine FinK.of (h := ?_)); (repeat' (first | exact FinL.nil | refine FinL.cons ?_ ?_ | refine Fin'.tup ?_ | exact Q.f3 | exact Q.f4 | exact Q.f5 | exact Q.f6 | refine Fin'.vb ?_ | refine Fin'.vi ?_ | refine Fin'.agg ?_)))
            | true =>
              rw [hop] at hc
              rw [hop] at jp
              have hc2 : ¬ (e.bal = m.bal ∧ e.abal = m.bal) := fun h => hc ⟨rfl, h⟩
              refine ⟨?_⟩; refine Spec.ofR (h := fun F w0 => ?_)
              repeat' ((conv => whnf); first | refine Q.E ?_ | (refine Stk.both (fun hb => ?_) (fun hb => ?_) <;> (try simp only [lE] at hb))); all_goals (conv => whnf)
              all_goals first | (exfalso; omega) | ((refine FinK.of (h := ?_)); (repeat' (first | exact FinL.nil | refine FinL.cons ?_ ?_ | refine Fin'.tup ?_ | exact Q.f3 | exact Q.f4 | exact Q.f5 | exact Q.f6 | refine Fin'.vb ?_ | refine Fin'.vi ?_ | refine Fin'.agg ?_)))
      · rw [onAcd_no (fun h => ho h.2.2.1)]
        refine ⟨?_⟩; refine Spec.ofR (h := fun F w0 => ?_)
        repeat' ((conv => whnf); first | refine Q.E ?_ | (refine Stk.both (fun hb => ?_) (fun hb => ?_) <;> (try simp only [lE] at hb))); all_goals (conv => whnf)
        ((refine FinK.of (h := ?_)); (repeat' (first | exact FinL.nil | refine FinL.cons ?_ ?_ | refine Fin'.tup ?_ | exact Q.f3 | exact Q.f4 | exact Q.f5 | exact Q.f6 | refine Fin'.vb ?_ | refine Fin'.vi ?_ | refine Fin'.agg ?_)))
  · rw [onAcd_no (fun h => hk h.1)]
    refine ⟨?_⟩; refine Spec.ofR (h := fun F w0 => ?_)
    repeat' ((conv => whnf); first | refine Q.E ?_ | (refine Stk.both (fun hb => ?_) (fun hb => ?_) <;> (try simp only [lE] at hb))); all_goals (conv => whnf)
    ((refine FinK.of (h := ?_)); (repeat' (first | exact FinL.nil | refine FinL.cons ?_ ?_ | refine Fin'.tup ?_ | exact Q.f3 | exact Q.f4 | exact Q.f5 | exact Q.f6 | refine Fin'.vb ?_ | refine Fin'.vi ?_ | refine Fin'.agg ?_)))
instance refonaccepted_spec (r : Rpl) (m : Msg) : HasSpec Tryz.prog 19 [.agg r.cs, .agg m.cs] (.tup [.agg (onAcd r m).1.cs, PV.outs (onAcd r m).2]) := by
  have jh := refhears26_spec r m
  by_cases hk : m.kind = 4
  · cases hh : hearsB r m with
    | false =>
      rw [hh] at jh
      rw [onAcd_no (fun h => by rw [hh] at h; cases h.2.1)]
      refine ⟨?_⟩; refine Spec.ofR (h := fun F w0 => ?_)
      repeat' ((conv => whnf); first | refine Q.E ?_ | (refine Stk.both (fun hb => ?_) (fun hb => ?_) <;> (try simp only [lE] at hb))); all_goals (conv => whnf)
      ((refine FinK.of (h := ?_)); (repeat' (first | exact FinL.nil | refine FinL.cons ?_ ?_ | refine Fin'.tup ?_ | exact Q.f3 | exact Q.f4 | exact Q.f5 | exact Q.f6 | refine Fin'.vb ?_ | refine Fin'.vi ?_ | refine Fin'.agg ?_)))
    | true =>
      rw [hh] at jh
      by_cases ho : ownI m.bal r.n = r.self
      · have jf := reftabfind_spec r.entries m.id
        cases hf : findB r.entries m.id with
        | false =>
          rw [hf] at jf
          rw [onAcd_no (fun h => by rw [hf] at h; cases h.2.2.2)]
          generalize findT r.entries m.id = e at *
          refine ⟨?_⟩; refine Spec.ofR (h := fun F w0 => ?_)
          repeat' ((conv => whnf); first | refine Q.E ?_ | (refine Stk.both (fun hb => ?_) (fun hb => ?_) <;> (try simp only [lE] at hb))); all_goals (conv => whnf)
          ((refine FinK.of (h := ?_)); (repeat' (first | exact FinL.nil | refine FinL.cons ?_ ?_ | refine Fin'.tup ?_ | exact Q.f3 | exact Q.f4 | exact Q.f5 | exact Q.f6 | refine Fin'.vb ?_ | refine Fin'.vi ?_ | refine Fin'.agg ?_)))
        | true =>
          rw [hf] at jf
          rw [onAcd_in ⟨hk, hh, ho, hf⟩ rfl]
          have hen := find_ent (hears_rep hh).1 hf
          clear hf
          generalize findT r.entries m.id = e at *
          have hph := ent_facts hen
          by_cases hc : openB e.phase = true ∧ e.bal = m.bal ∧ e.abal = m.bal
          · have hc1 := openB_iff.1 hc.1
            have hc2 := hc.2
            have ja : HasSpec Tryz.prog 78 [.agg e.cs, .agg [PV.int 2, PV.int m.fr, PV.int m.bal, PV.int 0, PV.int 0, PV.int 0]] (.tup [.agg (ackR e (accA m)).cs, .v (.bool (ackB e (accA m)))]) := refacked_spec e (accA m)
            have ju := refput_spec r (ackR e (accA m))
            cases hb : ackB e (accA m) with
            | false =>
              rw [hb] at ja
              rw [if_neg (fun h => by cases h.2.2.2.1)]
              generalize ackR e (accA m) = a at *
              generalize rputX r a = x at *
              generalize rputR r a = s at *
              refine ⟨?_⟩; refine Spec.ofR (h := fun F w0 => ?_)
              repeat' ((conv => whnf); first | refine Q.E ?_ | (refine Stk.both (fun hb => ?_) (fun hb => ?_) <;> (try simp only [lE] at hb))); all_goals (conv => whnf)
              ((refine FinK.of (h := ?_)); (repeat' (first | exact FinL.nil | refine FinL.cons ?_ ?_ | refine Fin'.tup ?_ | exact Q.f3 | exact Q.f4 | exact Q.f5 | exact Q.f6 | refine Fin'.vb ?_ | refine Fin'.vi ?_ | refine Fin'.agg ?_)))
            | true =>
              rw [hb] at ja
              by_cases hx : rputX r (ackR e (accA m)) = 0
              · rw [if_pos ⟨hc.1, hc.2.1, hc.2.2, rfl, hx⟩]
                have jw := refwon_spec (ackR e (accA m)) m.bal r.f (ack_len e _ hen)
                have jc := refcommit26_spec (rputR r (ackR e (accA m))) (ackR e (accA m)) (ackR e (accA m)).t
                generalize ackR e (accA m) = a at *
                generalize rputX r a = x at *
                generalize rputR r a = s at *
                cases hw : wonB a m.bal r.f with
                | false =>
                  rw [hw] at jw
                  rw [if_neg (by simp)]
                  refine ⟨?_⟩; refine Spec.ofR (h := fun F w0 => ?_)
                  repeat' ((conv => whnf); first | refine Q.E ?_ | (refine Stk.both (fun hb => ?_) (fun hb => ?_) <;> (try simp only [lE] at hb))); all_goals (conv => whnf)
                  ((refine FinK.of (h := ?_)); (repeat' (first | exact FinL.nil | refine FinL.cons ?_ ?_ | refine Fin'.tup ?_ | exact Q.f3 | exact Q.f4 | exact Q.f5 | exact Q.f6 | refine Fin'.vb ?_ | refine Fin'.vi ?_ | refine Fin'.agg ?_)))
                | true =>
                  rw [hw] at jw
                  rw [if_pos rfl]
                  cases hcm : cmtB s a a.t with
                  | false =>
                    rw [hcm] at jc
                    rw [if_neg (by simp)]
                    generalize cmtR s a a.t = u at *
                    refine ⟨?_⟩; refine Spec.ofR (h := fun F w0 => ?_)
                    repeat' ((conv => whnf); first | refine Q.E ?_ | (refine Stk.both (fun hb => ?_) (fun hb => ?_) <;> (try simp only [lE] at hb))); all_goals (conv => whnf)
                    ((refine FinK.of (h := ?_)); (repeat' (first | exact FinL.nil | refine FinL.cons ?_ ?_ | refine Fin'.tup ?_ | exact Q.f3 | exact Q.f4 | exact Q.f5 | exact Q.f6 | refine Fin'.vb ?_ | refine Fin'.vi ?_ | refine Fin'.agg ?_)))
                  | true =>
                    rw [hcm] at jc
                    rw [if_pos rfl]
                    generalize cmtR s a a.t = u at *
                    have jo := refall_raw u (m := ⟨5, 0, a.id, a.t, 0, 0, 0, a.quorum, a.payload, 0, 0, [], [], 0⟩) rfl rfl
                    rw [allO_from (r := u) (m := ⟨5, 0, a.id, a.t, 0, 0, 0, a.quorum, a.payload, 0, 0, [], [], 0⟩) (m' := tolM r a) rfl] at jo
                    generalize allO u (tolM r a) = o at *
                    refine ⟨?_⟩; refine Spec.ofR (h := fun F w0 => ?_)
                    repeat' ((conv => whnf); first | refine Q.E ?_ | (refine Stk.both (fun hb => ?_) (fun hb => ?_) <;> (try simp only [lE] at hb))); all_goals (conv => whnf)
                    refine Stk.by jo (h := ?_)
                    repeat' ((conv => whnf); first | refine Q.E ?_ | (refine Stk.both (fun hb => ?_) (fun hb => ?_) <;> (try simp only [lE] at hb))); all_goals (conv => whnf)
                    ((refine FinK.of (h := ?_)); (repeat' (first | exact FinL.nil | refine FinL.cons ?_ ?_ | refine Fin'.tup ?_ | exact Q.f3 | exact Q.f4 | exact Q.f5 | exact Q.f6 | refine Fin'.vb ?_ | refine Fin'.vi ?_ | refine Fin'.agg ?_)))
              · rw [if_neg (fun h => hx h.2.2.2.2)]
                generalize ackR e (accA m) = a at *
                generalize rputX r a = x at *
                generalize rputR r a = s at *
                refine ⟨?_⟩; refine Spec.ofR (h := fun F w0 => ?_)
                repeat' ((conv => whnf); first | refine Q.E ?_ | (refine Stk.both (fun hb => ?_) (fun hb => ?_) <;> (try simp only [lE] at hb))); all_goals (conv => whnf)
                ((refine FinK.of (h := ?_)); (repeat' (first | exact FinL.nil | refine FinL.cons ?_ ?_ | refine Fin'.tup ?_ | exact Q.f3 | exact Q.f4 | exact Q.f5 | exact Q.f6 | refine Fin'.vb ?_ | refine Fin'.vi ?_ | refine Fin'.agg ?_)))
          · rw [if_neg (fun h => hc ⟨h.1, h.2.1, h.2.2.1⟩)]
            have hc2 : ¬ (e.phase < 5 ∧ e.bal = m.bal ∧ e.abal = m.bal) := fun h => hc ⟨openB_iff.2 (by omega), h.2⟩
            refine ⟨?_⟩; refine Spec.ofR (h := fun F w0 => ?_)
            repeat' ((conv => whnf); first | refine Q.E ?_ | (refine Stk.both (fun hb => ?_) (fun hb => ?_) <;> (try simp only [lE] at hb))); all_goals (conv => whnf)
            all_goals first | (exfalso; omega) | ((refine FinK.of (h := ?_)); (repeat' (first | exact FinL.nil | refine FinL.cons ?_ ?_ | refine Fin'.tup ?_ | exact Q.f3 | exact Q.f4 | exact Q.f5 | exact Q.f6 | refine Fin'.vb ?_ | refine Fin'.vi ?_ | refine Fin'.agg ?_)))
      · rw [onAcd_no (fun h => ho h.2.2.1)]
        refine ⟨?_⟩; refine Spec.ofR (h := fun F w0 => ?_)
        repeat' ((conv => whnf); first | refine Q.E ?_ | (refine Stk.both (fun hb => ?_) (fun hb => ?_) <;> (try simp only [lE] at hb))); all_goals (conv => whnf)
        ((refine FinK.of (h := ?_)); (repeat' (first | exact FinL.nil | refine FinL.cons ?_ ?_ | refine Fin'.tup ?_ | exact Q.f3 | exact Q.f4 | exact Q.f5 | exact Q.f6 | refine Fin'.vb ?_ | refine Fin'.vi ?_ | refine Fin'.agg ?_)))
  · rw [onAcd_no (fun h => hk h.1)]
    refine ⟨?_⟩; refine Spec.ofR (h := fun F w0 => ?_)
    repeat' ((conv => whnf); first | refine Q.E ?_ | (refine Stk.both (fun hb => ?_) (fun hb => ?_) <;> (try simp only [lE] at hb))); all_goals (conv => whnf)
    ((refine FinK.of (h := ?_)); (repeat' (first | exact FinL.nil | refine FinL.cons ?_ ?_ | refine Fin'.tup ?_ | exact Q.f3 | exact Q.f4 | exact Q.f5 | exact Q.f6 | refine Fin'.vb ?_ | refine Fin'.vi ?_ | refine Fin'.agg ?_)))
theorem onRef_no {r : Rpl} {m : Msg} (h : ¬ (m.kind = 8 ∧ hearsB r m = true ∧ findB r.entries m.id = true ∧ rputX r (hearE (findT r.entries m.id) m.bal) = 0)) : onRef r m = (r, []) := if_neg h
theorem onRef_in {r : Rpl} {m : Msg} (h : m.kind = 8 ∧ hearsB r m = true ∧ findB r.entries m.id = true ∧ rputX r (hearE (findT r.entries m.id) m.bal) = 0) : onRef r m = (rputR r (hearE (findT r.entries m.id) m.bal), []) := if_pos h
instance onrefuse_spec (r : Rpl) (m : Msg) : HasSpec Tryz.prog 22 [.agg r.cs, .agg m.cs] (.tup [.agg (onRef r m).1.cs, PV.outs (onRef r m).2]) := by
  have jh := hears26_spec r m
  have jf := tablefind_spec r.entries m.id
  by_cases hk : m.kind = 8
  · cases hh : hearsB r m with
    | false =>
      rw [hh] at jh
      rw [onRef_no (fun h => by rw [hh] at h; cases h.2.1)]
      generalize findT r.entries m.id = e at *
      refine ⟨?_⟩; refine Spec.ofR (h := fun F w0 => ?_)
      repeat' ((conv => whnf); first | refine Q.E ?_ | (refine Stk.both (fun hb => ?_) (fun hb => ?_) <;> (try simp only [lE] at hb))); all_goals (conv => whnf)
      ((refine FinK.of (h := ?_)); (repeat' (first | exact FinL.nil | refine FinL.cons ?_ ?_ | refine Fin'.tup ?_ | exact Q.f3 | exact Q.f4 | exact Q.f5 | exact Q.f6 | refine Fin'.vb ?_ | refine Fin'.vi ?_ | refine Fin'.agg ?_)))
    | true =>
      rw [hh] at jh
      cases hf : findB r.entries m.id with
      | false =>
        rw [hf] at jf
        rw [onRef_no (fun h => by rw [hf] at h; cases h.2.2.1)]
        generalize findT r.entries m.id = e at *
        refine ⟨?_⟩; refine Spec.ofR (h := fun F w0 => ?_)
        repeat' ((conv => whnf); first | refine Q.E ?_ | (refine Stk.both (fun hb => ?_) (fun hb => ?_) <;> (try simp only [lE] at hb))); all_goals (conv => whnf)
        ((refine FinK.of (h := ?_)); (repeat' (first | exact FinL.nil | refine FinL.cons ?_ ?_ | refine Fin'.tup ?_ | exact Q.f3 | exact Q.f4 | exact Q.f5 | exact Q.f6 | refine Fin'.vb ?_ | refine Fin'.vi ?_ | refine Fin'.agg ?_)))
      | true =>
        rw [hf] at jf
        have ju := put_spec r (hearE (findT r.entries m.id) m.bal)
        have je := hear_spec (findT r.entries m.id) m.bal
        by_cases hx : rputX r (hearE (findT r.entries m.id) m.bal) = 0
        · rw [onRef_in ⟨hk, hh, hf, hx⟩]
          generalize findT r.entries m.id = e at *
          generalize hearE e m.bal = a at *
          generalize rputX r a = x at *
          generalize rputR r a = s at *
          refine ⟨?_⟩; refine Spec.ofR (h := fun F w0 => ?_)
          repeat' ((conv => whnf); first | refine Q.E ?_ | (refine Stk.both (fun hb => ?_) (fun hb => ?_) <;> (try simp only [lE] at hb))); all_goals (conv => whnf)
          ((refine FinK.of (h := ?_)); (repeat' (first | exact FinL.nil | refine FinL.cons ?_ ?_ | refine Fin'.tup ?_ | exact Q.f3 | exact Q.f4 | exact Q.f5 | exact Q.f6 | refine Fin'.vb ?_ | refine Fin'.vi ?_ | refine Fin'.agg ?_)))
        · rw [onRef_no (fun h => hx h.2.2.2)]
          generalize findT r.entries m.id = e at *
          generalize hearE e m.bal = a at *
          generalize rputX r a = x at *
          generalize rputR r a = s at *
          refine ⟨?_⟩; refine Spec.ofR (h := fun F w0 => ?_)
          repeat' ((conv => whnf); first | refine Q.E ?_ | (refine Stk.both (fun hb => ?_) (fun hb => ?_) <;> (try simp only [lE] at hb))); all_goals (conv => whnf)
          ((refine FinK.of (h := ?_)); (repeat' (first | exact FinL.nil | refine FinL.cons ?_ ?_ | refine Fin'.tup ?_ | exact Q.f3 | exact Q.f4 | exact Q.f5 | exact Q.f6 | refine Fin'.vb ?_ | refine Fin'.vi ?_ | refine Fin'.agg ?_)))
  · rw [onRef_no (fun h => hk h.1)]
    generalize findT r.entries m.id = e at *
    refine ⟨?_⟩; refine Spec.ofR (h := fun F w0 => ?_)
    repeat' ((conv => whnf); first | refine Q.E ?_ | (refine Stk.both (fun hb => ?_) (fun hb => ?_) <;> (try simp only [lE] at hb))); all_goals (conv => whnf)
    ((refine FinK.of (h := ?_)); (repeat' (first | exact FinL.nil | refine FinL.cons ?_ ?_ | refine Fin'.tup ?_ | exact Q.f3 | exact Q.f4 | exact Q.f5 | exact Q.f6 | refine Fin'.vb ?_ | refine Fin'.vi ?_ | refine Fin'.agg ?_)))
instance refonrefuse_spec (r : Rpl) (m : Msg) : HasSpec Tryz.prog 23 [.agg r.cs, .agg m.cs] (.tup [.agg (onRef r m).1.cs, PV.outs (onRef r m).2]) := by
  have jh := refhears26_spec r m
  have jf := reftabfind_spec r.entries m.id
  by_cases hk : m.kind = 8
  · cases hh : hearsB r m with
    | false =>
      rw [hh] at jh
      rw [onRef_no (fun h => by rw [hh] at h; cases h.2.1)]
      generalize findT r.entries m.id = e at *
      refine ⟨?_⟩; refine Spec.ofR (h := fun F w0 => ?_)
      repeat' ((conv => whnf); first | refine Q.E ?_ | (refine Stk.both (fun hb => ?_) (fun hb => ?_) <;> (try simp only [lE] at hb))); all_goals (conv => whnf)
      ((refine FinK.of (h := ?_)); (repeat' (first | exact FinL.nil | refine FinL.cons ?_ ?_ | refine Fin'.tup ?_ | exact Q.f3 | exact Q.f4 | exact Q.f5 | exact Q.f6 | refine Fin'.vb ?_ | refine Fin'.vi ?_ | refine Fin'.agg ?_)))
    | true =>
      rw [hh] at jh
      cases hf : findB r.entries m.id with
      | false =>
        rw [hf] at jf
        rw [onRef_no (fun h => by rw [hf] at h; cases h.2.2.1)]
        generalize findT r.entries m.id = e at *
        refine ⟨?_⟩; refine Spec.ofR (h := fun F w0 => ?_)
        repeat' ((conv => whnf); first | refine Q.E ?_ | (refine Stk.both (fun hb => ?_) (fun hb => ?_) <;> (try simp only [lE] at hb))); all_goals (conv => whnf)
        ((refine FinK.of (h := ?_)); (repeat' (first | exact FinL.nil | refine FinL.cons ?_ ?_ | refine Fin'.tup ?_ | exact Q.f3 | exact Q.f4 | exact Q.f5 | exact Q.f6 | refine Fin'.vb ?_ | refine Fin'.vi ?_ | refine Fin'.agg ?_)))
      | true =>
        rw [hf] at jf
        have ju := refput_spec r (hearE (findT r.entries m.id) m.bal)
        have je := refhear_spec (findT r.entries m.id) m.bal
        by_cases hx : rputX r (hearE (findT r.entries m.id) m.bal) = 0
        · rw [onRef_in ⟨hk, hh, hf, hx⟩]
          generalize findT r.entries m.id = e at *
          generalize hearE e m.bal = a at *
          generalize rputX r a = x at *
          generalize rputR r a = s at *
          refine ⟨?_⟩; refine Spec.ofR (h := fun F w0 => ?_)
          repeat' ((conv => whnf); first | refine Q.E ?_ | (refine Stk.both (fun hb => ?_) (fun hb => ?_) <;> (try simp only [lE] at hb))); all_goals (conv => whnf)
          ((refine FinK.of (h := ?_)); (repeat' (first | exact FinL.nil | refine FinL.cons ?_ ?_ | refine Fin'.tup ?_ | exact Q.f3 | exact Q.f4 | exact Q.f5 | exact Q.f6 | refine Fin'.vb ?_ | refine Fin'.vi ?_ | refine Fin'.agg ?_)))
        · rw [onRef_no (fun h => hx h.2.2.2)]
          generalize findT r.entries m.id = e at *
          generalize hearE e m.bal = a at *
          generalize rputX r a = x at *
          generalize rputR r a = s at *
          refine ⟨?_⟩; refine Spec.ofR (h := fun F w0 => ?_)
          repeat' ((conv => whnf); first | refine Q.E ?_ | (refine Stk.both (fun hb => ?_) (fun hb => ?_) <;> (try simp only [lE] at hb))); all_goals (conv => whnf)
          ((refine FinK.of (h := ?_)); (repeat' (first | exact FinL.nil | refine FinL.cons ?_ ?_ | refine Fin'.tup ?_ | exact Q.f3 | exact Q.f4 | exact Q.f5 | exact Q.f6 | refine Fin'.vb ?_ | refine Fin'.vi ?_ | refine Fin'.agg ?_)))
  · rw [onRef_no (fun h => hk h.1)]
    generalize findT r.entries m.id = e at *
    refine ⟨?_⟩; refine Spec.ofR (h := fun F w0 => ?_)
    repeat' ((conv => whnf); first | refine Q.E ?_ | (refine Stk.both (fun hb => ?_) (fun hb => ?_) <;> (try simp only [lE] at hb))); all_goals (conv => whnf)
    ((refine FinK.of (h := ?_)); (repeat' (first | exact FinL.nil | refine FinL.cons ?_ ?_ | refine Fin'.tup ?_ | exact Q.f3 | exact Q.f4 | exact Q.f5 | exact Q.f6 | refine Fin'.vb ?_ | refine Fin'.vi ?_ | refine Fin'.agg ?_)))
end Go.Proofs.YtbjepdfnmbdplaaGreat
end
section
namespace Go.Proofs.YtbjepdfnmbdplaaGreat
open Go.RowKit
set_option linter.unusedSimpArgs false
set_option linter.unusedVariables false
set_option maxRecDepth 100000
set_option maxHeartbeats 4000000
theorem Rng.self (r : Rng) : (!tst ([r.lo, r.hi] = [r.lo, r.hi])) = false := by rw [tst_true.2 rfl]; rfl
theorem dec_refl {α : Type} [DecidableEq α] (x : α) : decide (x = x) = true := decide_eq_true rfl
instance rngself_spec (l : List Rng) : HasSpec Tryz.prog 143 [PV.rngs l, PV.rngs l] (.v (.bool true)) := by
  refine ⟨Spec.bound 0 rfl fun hl => ?_⟩; rw [List.length_map] at hl; refine Spec.ofR (h := fun F w0 => ?_)
  repeat' ((conv => whnf); first | refine Q.E ?_ | (refine Stk.both (fun hb => ?_) (fun hb => ?_) <;> (try simp only [lE] at hb))); all_goals (conv => whnf)
  refine Stk.loop (ι := Nat) (fun i => [(0, PV.rngs l), (1, PV.rngs l), (5, PV.int (i : Nat))]) (fun _ => []) (fun i => i ≤ l.length) (fun i => l.length - i) 0 (Nat.zero_le _) (Weak.gc ⟨rfl, rfl, rfl, trivial⟩ trivial rfl rfl rfl) (fun i hi => ?_)
  by_cases hlt : i < l.length
  · have hz := Rng.self l[i]
    repeat' ((conv => whnf); first | refine Q.E ?_ | (refine Stk.both (fun hb => ?_) (fun hb => ?_) <;> (try simp only [lE] at hb))); all_goals (conv => whnf)
    exact ⟨i + 1, by omega, by omega, Weak.gc ⟨rfl, rfl, rfl, trivial⟩ trivial rfl rfl rfl⟩
  · repeat' ((conv => whnf); first | refine Q.E ?_ | (refine Stk.both (fun hb => ?_) (fun hb => ?_) <;> (try simp only [lE] at hb))); all_goals (conv => whnf)
    ((refine FinK.of (h := ?_)); (repeat' (first | exact FinL.nil | refine FinL.cons ?_ ?_ | refine Fin'.tup ?_ | exact Q.f3 | exact Q.f4 | exact Q.f5 | exact Q.f6 | refine Fin'.vb ?_ | refine Fin'.vi ?_ | refine Fin'.agg ?_)))
instance knoself_spec (k : Kno) : HasSpec Tryz.prog 142 [.agg k.cs, .agg k.cs] (.v (.bool true)) := by
  have j1 := sameatts_spec k.atts k.atts
  rw [dec_refl] at j1
  refine ⟨?_⟩; refine Spec.ofR (h := fun F w0 => ?_)
  repeat' ((conv => whnf); first | refine Q.E ?_ | (refine Stk.both (fun hb => ?_) (fun hb => ?_) <;> (try simp only [lE] at hb))); all_goals (conv => whnf)
  ((refine FinK.of (h := ?_)); (repeat' (first | exact FinL.nil | refine FinL.cons ?_ ?_ | refine Fin'.tup ?_ | exact Q.f3 | exact Q.f4 | exact Q.f5 | exact Q.f6 | refine Fin'.vb ?_ | refine Fin'.vi ?_ | refine Fin'.agg ?_)))
instance entself_spec (l : List Ent) : HasSpec Tryz.prog 63 [PV.ents l, PV.ents l] (.v (.bool true)) := by
  refine ⟨Spec.bound 0 rfl fun hl => ?_⟩; rw [List.length_map] at hl; refine Spec.ofR (h := fun F w0 => ?_)
  repeat' ((conv => whnf); first | refine Q.E ?_ | (refine Stk.both (fun hb => ?_) (fun hb => ?_) <;> (try simp only [lE] at hb))); all_goals (conv => whnf)
  refine Stk.loop (ι := Nat) (fun i => [(0, PV.ents l), (1, PV.ents l), (5, PV.int (i : Nat))]) (fun _ => []) (fun i => i ≤ l.length) (fun i => l.length - i) 0 (Nat.zero_le _) (Weak.gc ⟨rfl, rfl, rfl, trivial⟩ trivial rfl rfl rfl) (fun i hi => ?_)
  by_cases hlt : i < l.length
  · have j1 := refentsame_spec l[i] l[i]
    rw [Ent.same_iff.2 rfl] at j1
    repeat' ((conv => whnf); first | refine Q.E ?_ | (refine Stk.both (fun hb => ?_) (fun hb => ?_) <;> (try simp only [lE] at hb))); all_goals (conv => whnf)
    exact ⟨i + 1, by omega, by omega, Weak.gc ⟨rfl, rfl, rfl, trivial⟩ trivial rfl rfl rfl⟩
  · repeat' ((conv => whnf); first | refine Q.E ?_ | (refine Stk.both (fun hb => ?_) (fun hb => ?_) <;> (try simp only [lE] at hb))); all_goals (conv => whnf)
    ((refine FinK.of (h := ?_)); (repeat' (first | exact FinL.nil | refine FinL.cons ?_ ?_ | refine Fin'.tup ?_ | exact Q.f3 | exact Q.f4 | exact Q.f5 | exact Q.f6 | refine Fin'.vb ?_ | refine Fin'.vi ?_ | refine Fin'.agg ?_)))
instance knosself_spec (l : List Kno) : HasSpec Tryz.prog 65 [PV.knos l, PV.knos l] (.v (.bool true)) := by
  refine ⟨Spec.bound 0 rfl fun hl => ?_⟩; rw [List.length_map] at hl; refine Spec.ofR (h := fun F w0 => ?_)
  repeat' ((conv => whnf); first | refine Q.E ?_ | (refine Stk.both (fun hb => ?_) (fun hb => ?_) <;> (try simp only [lE] at hb))); all_goals (conv => whnf)
  refine Stk.loop (ι := Nat) (fun i => [(0, PV.knos l), (1, PV.knos l), (5, PV.int (i : Nat))]) (fun _ => []) (fun i => i ≤ l.length) (fun i => l.length - i) 0 (Nat.zero_le _) (Weak.gc ⟨rfl, rfl, rfl, trivial⟩ trivial rfl rfl rfl) (fun i hi => ?_)
  by_cases hlt : i < l.length
  · have j1 := knoself_spec l[i]
    repeat' ((conv => whnf); first | refine Q.E ?_ | (refine Stk.both (fun hb => ?_) (fun hb => ?_) <;> (try simp only [lE] at hb))); all_goals (conv => whnf)
    exact ⟨i + 1, by omega, by omega, Weak.gc ⟨rfl, rfl, rfl, trivial⟩ trivial rfl rfl rfl⟩
  · repeat' ((conv => whnf); first | refine Q.E ?_ | (refine Stk.both (fun hb => ?_) (fun hb => ?_) <;> (try simp only [lE] at hb))); all_goals (conv => whnf)
    ((refine FinK.of (h := ?_)); (repeat' (first | exact FinL.nil | refine FinL.cons ?_ ?_ | refine Fin'.tup ?_ | exact Q.f3 | exact Q.f4 | exact Q.f5 | exact Q.f6 | refine Fin'.vb ?_ | refine Fin'.vi ?_ | refine Fin'.agg ?_)))
instance donself_spec (l : List (List Rng)) : HasSpec Tryz.prog 68 [PV.dons l, PV.dons l] (.v (.bool true)) := by
  refine ⟨Spec.bound 0 rfl fun hl => ?_⟩; rw [List.length_map] at hl; refine Spec.ofR (h := fun F w0 => ?_)
  repeat' ((conv => whnf); first | refine Q.E ?_ | (refine Stk.both (fun hb => ?_) (fun hb => ?_) <;> (try simp only [lE] at hb))); all_goals (conv => whnf)
  refine Stk.loop (ι := Nat) (fun i => [(0, PV.dons l), (1, PV.dons l), (5, PV.int (i : Nat))]) (fun _ => []) (fun i => i ≤ l.length) (fun i => l.length - i) 0 (Nat.zero_le _) (Weak.gc ⟨rfl, rfl, rfl, trivial⟩ trivial rfl rfl rfl) (fun i hi => ?_)
  by_cases hlt : i < l.length
  · have j1 := rngself_spec l[i]
    repeat' ((conv => whnf); first | refine Q.E ?_ | (refine Stk.both (fun hb => ?_) (fun hb => ?_) <;> (try simp only [lE] at hb))); all_goals (conv => whnf)
    exact ⟨i + 1, by omega, by omega, Weak.gc ⟨rfl, rfl, rfl, trivial⟩ trivial rfl rfl rfl⟩
  · repeat' ((conv => whnf); first | refine Q.E ?_ | (refine Stk.both (fun hb => ?_) (fun hb => ?_) <;> (try simp only [lE] at hb))); all_goals (conv => whnf)
    ((refine FinK.of (h := ?_)); (repeat' (first | exact FinL.nil | refine FinL.cons ?_ ?_ | refine Fin'.tup ?_ | exact Q.f3 | exact Q.f4 | exact Q.f5 | exact Q.f6 | refine Fin'.vb ?_ | refine Fin'.vi ?_ | refine Fin'.agg ?_)))
instance outself_spec (l : List Out) : HasSpec Tryz.prog 17 [PV.outs l, PV.outs l] (.v (.bool true)) := by
  refine ⟨Spec.bound 0 rfl fun hl => ?_⟩; rw [List.length_map] at hl; refine Spec.ofR (h := fun F w0 => ?_)
  repeat' ((conv => whnf); first | refine Q.E ?_ | (refine Stk.both (fun hb => ?_) (fun hb => ?_) <;> (try simp only [lE] at hb))); all_goals (conv => whnf)
  refine Stk.loop (ι := Nat) (fun i => [(0, PV.outs l), (1, PV.outs l), (5, PV.int (i : Nat))]) (fun _ => []) (fun i => i ≤ l.length) (fun i => l.length - i) 0 (Nat.zero_le _) (Weak.gc ⟨rfl, rfl, rfl, trivial⟩ trivial rfl rfl rfl) (fun i hi => ?_)
  by_cases hlt : i < l.length
  · have j1 := refmsgsame_spec l[i].m l[i].m
    rw [dec_refl] at j1
    repeat' ((conv => whnf); first | refine Q.E ?_ | (refine Stk.both (fun hb => ?_) (fun hb => ?_) <;> (try simp only [lE] at hb))); all_goals (conv => whnf)
    refine Stk.by j1 (h := ?_)
    repeat' ((conv => whnf); first | refine Q.E ?_ | (refine Stk.both (fun hb => ?_) (fun hb => ?_) <;> (try simp only [lE] at hb))); all_goals (conv => whnf)
    exact ⟨i + 1, by omega, by omega, Weak.gc ⟨rfl, rfl, rfl, trivial⟩ trivial rfl rfl rfl⟩
  · repeat' ((conv => whnf); first | refine Q.E ?_ | (refine Stk.both (fun hb => ?_) (fun hb => ?_) <;> (try simp only [lE] at hb))); all_goals (conv => whnf)
    ((refine FinK.of (h := ?_)); (repeat' (first | exact FinL.nil | refine FinL.cons ?_ ?_ | refine Fin'.tup ?_ | exact Q.f3 | exact Q.f4 | exact Q.f5 | exact Q.f6 | refine Fin'.vb ?_ | refine Fin'.vi ?_ | refine Fin'.agg ?_)))
instance repself_spec (r : Rpl) : HasSpec Tryz.prog 16 [.agg r.cs, .agg r.cs] (.v (.bool true)) := by
  have j1 := sameatts_spec r.own r.own
  have j2 := refsame18_spec r.marks r.marks
  have j3 := refsame_spec r.fronts r.fronts
  rw [dec_refl] at j1 j2 j3
  have hz : tst ([r.last.t, r.last.id] = [r.last.t, r.last.id]) = true := tst_true.2 rfl
  refine ⟨?_⟩; refine Spec.ofR (h := fun F w0 => ?_)
  repeat' ((conv => whnf); first | refine Q.E ?_ | (refine Stk.both (fun hb => ?_) (fun hb => ?_) <;> (try simp only [lE] at hb))); all_goals (conv => whnf)
  ((refine FinK.of (h := ?_)); (repeat' (first | exact FinL.nil | refine FinL.cons ?_ ?_ | refine Fin'.tup ?_ | exact Q.f3 | exact Q.f4 | exact Q.f5 | exact Q.f6 | refine Fin'.vb ?_ | refine Fin'.vi ?_ | refine Fin'.agg ?_)))
def fewE (e : Ent) : Bool := decide (e.acks.length ≤ 100) && decide (e.payload.size ≤ 1000)
instance fewent_spec (e : Ent) : HasSpec Tryz.prog 12 [.agg e.cs] (.v (.bool (fewE e))) := by
  unfold fewE
  by_cases h : e.acks.length ≤ 100
  · rw [decide_eq_true h]
    refine ⟨?_⟩; refine Spec.ofR (h := fun F w0 => ?_)
    repeat' ((conv => whnf); first | refine Q.E ?_ | (refine Stk.both (fun hb => ?_) (fun hb => ?_) <;> (try simp only [lE] at hb))); all_goals (conv => whnf)
    ((refine FinK.of (h := ?_)); (repeat' (first | exact FinL.nil | refine FinL.cons ?_ ?_ | refine Fin'.tup ?_ | exact Q.f3 | exact Q.f4 | exact Q.f5 | exact Q.f6 | refine Fin'.vb ?_ | refine Fin'.vi ?_ | refine Fin'.agg ?_)))
    rw [tst_eq, Bool.true_and, decide_eq_decide]
    omega
  · rw [decide_eq_false h]
    refine ⟨?_⟩; refine Spec.ofR (h := fun F w0 => ?_)
    repeat' ((conv => whnf); first | refine Q.E ?_ | (refine Stk.both (fun hb => ?_) (fun hb => ?_) <;> (try simp only [lE] at hb))); all_goals (conv => whnf)
    ((refine FinK.of (h := ?_)); (repeat' (first | exact FinL.nil | refine FinL.cons ?_ ?_ | refine Fin'.tup ?_ | exact Q.f3 | exact Q.f4 | exact Q.f5 | exact Q.f6 | refine Fin'.vb ?_ | refine Fin'.vi ?_ | refine Fin'.agg ?_)))
def fewM (m : Msg) : Bool := decide (m.payload.size ≤ 1000) && decide (m.atts.length ≤ 300) && decide (m.marks.length ≤ 100)
instance fewmsg_spec (m : Msg) : HasSpec Tryz.prog 11 [.agg m.cs] (.v (.bool (fewM m))) := by
  unfold fewM
  by_cases h1 : m.payload.size ≤ 1000
  · by_cases h2 : m.atts.length ≤ 300
    · by_cases h3 : m.marks.length ≤ 100
      · rw [decide_eq_true h1, decide_eq_true h2, decide_eq_true h3]
        refine ⟨?_⟩; refine Spec.ofR (h := fun F w0 => ?_)
        repeat' ((conv => whnf); first | refine Q.E ?_ | (refine Stk.both (fun hb => ?_) (fun hb => ?_) <;> (try simp only [lE] at hb))); all_goals (conv => whnf)
        ((refine FinK.of (h := ?_)); (repeat' (first | exact FinL.nil | refine FinL.cons ?_ ?_ | refine Fin'.tup ?_ | exact Q.f3 | exact Q.f4 | exact Q.f5 | exact Q.f6 | refine Fin'.vb ?_ | refine Fin'.vi ?_ | refine Fin'.agg ?_)))
        all_goals (first | rfl | exact tst_true.2 (by omega) | exact tst_false.2 (by omega) | (simp [tst_eq]; done) | (simp only [Bool.not_true, Bool.not_false, Bool.and_true, Bool.true_and, Bool.and_false, Bool.false_and]; first | done | exact tst_true.2 (by omega) | exact tst_false.2 (by omega) | (rw [tst_true.2 (by omega)]; done) | (rw [tst_false.2 (by omega)]; done)))
      · rw [decide_eq_true h1, decide_eq_true h2, decide_eq_false h3]
        refine ⟨?_⟩; refine Spec.ofR (h := fun F w0 => ?_)
        repeat' ((conv => whnf); first | refine Q.E ?_ | (refine Stk.both (fun hb => ?_) (fun hb => ?_) <;> (try simp only [lE] at hb))); all_goals (conv => whnf)
        ((refine FinK.of (h := ?_)); (repeat' (first | exact FinL.nil | refine FinL.cons ?_ ?_ | refine Fin'.tup ?_ | exact Q.f3 | exact Q.f4 | exact Q.f5 | exact Q.f6 | refine Fin'.vb ?_ | refine Fin'.vi ?_ | refine Fin'.agg ?_)))
        all_goals (first | rfl | exact tst_true.2 (by omega) | exact tst_false.2 (by omega) | (simp [tst_eq]; done) | (simp only [Bool.not_true, Bool.not_false, Bool.and_true, Bool.true_and, Bool.and_false, Bool.false_and]; first | done | exact tst_true.2 (by omega) | exact tst_false.2 (by omega) | (rw [tst_true.2 (by omega)]; done) | (rw [tst_false.2 (by omega)]; done)))
    · rw [decide_eq_true h1, decide_eq_false h2]
      refine ⟨?_⟩; refine Spec.ofR (h := fun F w0 => ?_)
      repeat' ((conv => whnf); first | refine Q.E ?_ | (refine Stk.both (fun hb => ?_) (fun hb => ?_) <;> (try simp only [lE] at hb))); all_goals (conv => whnf)
      ((refine FinK.of (h := ?_)); (repeat' (first | exact FinL.nil | refine FinL.cons ?_ ?_ | refine Fin'.tup ?_ | exact Q.f3 | exact Q.f4 | exact Q.f5 | exact Q.f6 | refine Fin'.vb ?_ | refine Fin'.vi ?_ | refine Fin'.agg ?_)))
      all_goals (first | rfl | exact tst_true.2 (by omega) | exact tst_false.2 (by omega) | (simp [tst_eq]; done) | (simp only [Bool.not_true, Bool.not_false, Bool.and_true, Bool.true_and, Bool.and_false, Bool.false_and]; first | done | exact tst_true.2 (by omega) | exact tst_false.2 (by omega) | (rw [tst_true.2 (by omega)]; done) | (rw [tst_false.2 (by omega)]; done)))
  · rw [decide_eq_false h1]
    refine ⟨?_⟩; refine Spec.ofR (h := fun F w0 => ?_)
    repeat' ((conv => whnf); first | refine Q.E ?_ | (refine Stk.both (fun hb => ?_) (fun hb => ?_) <;> (try simp only [lE] at hb))); all_goals (conv => whnf)
    ((refine FinK.of (h := ?_)); (repeat' (first | exact FinL.nil | refine FinL.cons ?_ ?_ | refine Fin'.tup ?_ | exact Q.f3 | exact Q.f4 | exact Q.f5 | exact Q.f6 | refine Fin'.vb ?_ | refine Fin'.vi ?_ | refine Fin'.agg ?_)))
    all_goals (first | rfl | exact tst_true.2 (by omega) | exact tst_false.2 (by omega) | (simp [tst_eq]; done) | (simp only [Bool.not_true, Bool.not_false, Bool.and_true, Bool.true_and, Bool.and_false, Bool.false_and]; first | done | exact tst_true.2 (by omega) | exact tst_false.2 (by omega) | (rw [tst_true.2 (by omega)]; done) | (rw [tst_false.2 (by omega)]; done)))
def fewK (k : Kno) : Bool := decide (k.rs.length ≤ 100) && decide (k.atts.length ≤ 100)
instance fewkno_spec (k : Kno) : HasSpec Tryz.prog 45 [.agg k.cs] (.v (.bool (fewK k))) := by
  unfold fewK
  by_cases h : k.rs.length ≤ 100
  · rw [decide_eq_true h]
    refine ⟨?_⟩; refine Spec.ofR (h := fun F w0 => ?_)
    repeat' ((conv => whnf); first | refine Q.E ?_ | (refine Stk.both (fun hb => ?_) (fun hb => ?_) <;> (try simp only [lE] at hb))); all_goals (conv => whnf)
    ((refine FinK.of (h := ?_)); (repeat' (first | exact FinL.nil | refine FinL.cons ?_ ?_ | refine Fin'.tup ?_ | exact Q.f3 | exact Q.f4 | exact Q.f5 | exact Q.f6 | refine Fin'.vb ?_ | refine Fin'.vi ?_ | refine Fin'.agg ?_)))
    rw [tst_eq, Bool.true_and, decide_eq_decide]
    omega
  · rw [decide_eq_false h]
    refine ⟨?_⟩; refine Spec.ofR (h := fun F w0 => ?_)
    repeat' ((conv => whnf); first | refine Q.E ?_ | (refine Stk.both (fun hb => ?_) (fun hb => ?_) <;> (try simp only [lE] at hb))); all_goals (conv => whnf)
    ((refine FinK.of (h := ?_)); (repeat' (first | exact FinL.nil | refine FinL.cons ?_ ?_ | refine Fin'.tup ?_ | exact Q.f3 | exact Q.f4 | exact Q.f5 | exact Q.f6 | refine Fin'.vb ?_ | refine Fin'.vi ?_ | refine Fin'.agg ?_)))
def fewL (l : List Ent) : Bool := decide (l.length ≤ 60) && l.all fewE
theorem all_bad {α : Type} {p : α → Bool} {l : List α} {i : Nat} (h : i < l.length) (hq : p l[i] = false) : l.all p = false := List.all_eq_false.2 ⟨l[i], List.getElem_mem h, by rw [hq]; simp⟩
theorem all_good {α : Type} {p : α → Bool} {l : List α} {i : Nat} (h : ¬ i < l.length) (hq : ∀ x ∈ l.take i, (!p x) = false) : l.all p = true := List.all_eq_true.2 fun x hx => by
  have := take_all (p := fun x => !p x) (by omega) hq x hx
  simpa using this
instance fewents_spec (l : List Ent) : HasSpec Tryz.prog 43 [PV.ents l] (.v (.bool (fewL l))) := by
  unfold fewL
  by_cases h60 : l.length ≤ 60
  · rw [decide_eq_true h60, Bool.true_and]
    refine ⟨?_⟩; refine Spec.ofR (h := fun F w0 => ?_)
    repeat' ((conv => whnf); first | refine Q.E ?_ | (refine Stk.both (fun hb => ?_) (fun hb => ?_) <;> (try simp only [lE] at hb))); all_goals (conv => whnf)
    refine Stk.loop (ι := Nat) (fun i => [(0, PV.ents l), (3, PV.int (i : Nat))]) (fun _ => []) (fun i => i ≤ l.length ∧ ∀ x ∈ l.take i, (!fewE x) = false) (fun i => l.length - i) 0 ⟨Nat.zero_le _, by simp⟩ (Weak.gc ⟨rfl, rfl, trivial⟩ trivial rfl rfl rfl) (fun i hi => ?_)
    obtain ⟨hi, hno⟩ := hi
    by_cases hlt : i < l.length
    · have j1 := fewent_spec l[i]
      cases hq : fewE l[i] with
      | false =>
        rw [hq] at j1
        rw [all_bad hlt hq]
        repeat' ((conv => whnf); first | refine Q.E ?_ | (refine Stk.both (fun hb => ?_) (fun hb => ?_) <;> (try simp only [lE] at hb))); all_goals (conv => whnf)
        ((refine FinK.of (h := ?_)); (repeat' (first | exact FinL.nil | refine FinL.cons ?_ ?_ | refine Fin'.tup ?_ | exact Q.f3 | exact Q.f4 | exact Q.f5 | exact Q.f6 | refine Fin'.vb ?_ | refine Fin'.vi ?_ | refine Fin'.agg ?_)))
      | true =>
        rw [hq] at j1
        repeat' ((conv => whnf); first | refine Q.E ?_ | (refine Stk.both (fun hb => ?_) (fun hb => ?_) <;> (try simp only [lE] at hb))); all_goals (conv => whnf)
        exact ⟨i + 1, ⟨by omega, take_no (p := fun x => !fewE x) hlt hno (by show (!fewE l[i]) = false; rw [hq]; rfl)⟩, by omega, Weak.gc ⟨rfl, rfl, trivial⟩ trivial rfl rfl rfl⟩
    · rw [all_good hlt hno]
      repeat' ((conv => whnf); first | refine Q.E ?_ | (refine Stk.both (fun hb => ?_) (fun hb => ?_) <;> (try simp only [lE] at hb))); all_goals (conv => whnf)
      ((refine FinK.of (h := ?_)); (repeat' (first | exact FinL.nil | refine FinL.cons ?_ ?_ | refine Fin'.tup ?_ | exact Q.f3 | exact Q.f4 | exact Q.f5 | exact Q.f6 | refine Fin'.vb ?_ | refine Fin'.vi ?_ | refine Fin'.agg ?_)))
  · rw [decide_eq_false h60]
    refine ⟨?_⟩; refine Spec.ofR (h := fun F w0 => ?_)
    repeat' ((conv => whnf); first | refine Q.E ?_ | (refine Stk.both (fun hb => ?_) (fun hb => ?_) <;> (try simp only [lE] at hb))); all_goals (conv => whnf)
    ((refine FinK.of (h := ?_)); (repeat' (first | exact FinL.nil | refine FinL.cons ?_ ?_ | refine Fin'.tup ?_ | exact Q.f3 | exact Q.f4 | exact Q.f5 | exact Q.f6 | refine Fin'.vb ?_ | refine Fin'.vi ?_ | refine Fin'.agg ?_)))
def fewR1 (r : Rpl) : Bool := fewL r.entries && decide (r.own.length ≤ 100) && decide (r.known.length ≤ 20) && fewT r.marks && decide (r.fronts.length ≤ 20) && decide (r.done.length ≤ 20)
def fewR (r : Rpl) : Bool := fewR1 r && r.known.all fewK && (r.done.all fun l => decide (l.length ≤ 100)) && decide (r.items.length ≤ 60) && decide (r.sess.length ≤ 60)
theorem few_no1 {r : Rpl} (h : fewR1 r = false) : fewR r = false := by unfold fewR; rw [h]; rfl
theorem few_parts {r : Rpl} (h : fewR1 r = true) : fewL r.entries = true ∧ r.own.length ≤ 100 ∧ r.known.length ≤ 20 ∧ fewT r.marks = true ∧ r.fronts.length ≤ 20 ∧ r.done.length ≤ 20 := by
  unfold fewR1 at h
  simp only [Bool.and_eq_true, decide_eq_true_eq] at h
  exact ⟨h.1.1.1.1.1, h.1.1.1.1.2, h.1.1.1.2, h.1.1.2, h.1.2, h.2⟩
theorem few_nots {r : Rpl} (h : fewR1 r = false) : ¬ (fewL r.entries = true ∧ r.own.length ≤ 100 ∧ r.known.length ≤ 20 ∧ fewT r.marks = true ∧ r.fronts.length ≤ 20 ∧ r.done.length ≤ 20) := by
  rintro ⟨h1, h2, h3, h4, h5, h6⟩
  unfold fewR1 at h
  rw [h1, decide_eq_true h2, decide_eq_true h3, h4, decide_eq_true h5, decide_eq_true h6] at h
  cases h
instance fewrep_spec (r : Rpl) : HasSpec Tryz.prog 10 [.agg r.cs] (.v (.bool (fewR r))) := by
  have je := fewents_spec r.entries
  have jt := few18_spec r.marks
  cases h1 : fewR1 r with
  | false =>
    rw [few_no1 h1]
    have hn := few_nots h1
    cases he : fewL r.entries with
    | false =>
      rw [he] at je
      refine ⟨?_⟩; refine Spec.ofR (h := fun F w0 => ?_)
      repeat' ((conv => whnf); first | refine Q.E ?_ | (refine Stk.both (fun hb => ?_) (fun hb => ?_) <;> (try simp only [lE] at hb))); all_goals (conv => whnf)
      ((refine FinK.of (h := ?_)); (repeat' (first | exact FinL.nil | refine FinL.cons ?_ ?_ | refine Fin'.tup ?_ | exact Q.f3 | exact Q.f4 | exact Q.f5 | exact Q.f6 | refine Fin'.vb ?_ | refine Fin'.vi ?_ | refine Fin'.agg ?_)))
    | true =>
      rw [he] at je hn
      cases hm : fewT r.marks with
      | false =>
        rw [hm] at jt
        refine ⟨?_⟩; refine Spec.ofR (h := fun F w0 => ?_)
        repeat' ((conv => whnf); first | refine Q.E ?_ | (refine Stk.both (fun hb => ?_) (fun hb => ?_) <;> (try simp only [lE] at hb))); all_goals (conv => whnf)
        all_goals ((refine FinK.of (h := ?_)); (repeat' (first | exact FinL.nil | refine FinL.cons ?_ ?_ | refine Fin'.tup ?_ | exact Q.f3 | exact Q.f4 | exact Q.f5 | exact Q.f6 | refine Fin'.vb ?_ | refine Fin'.vi ?_ | refine Fin'.agg ?_)))
      | true =>
        rw [hm] at jt hn
        have hn2 : ¬ (r.own.length ≤ 100 ∧ r.known.length ≤ 20 ∧ r.fronts.length ≤ 20 ∧ r.done.length ≤ 20) := fun h => hn ⟨rfl, h.1, h.2.1, rfl, h.2.2.1, h.2.2.2⟩
        refine ⟨?_⟩; refine Spec.ofR (h := fun F w0 => ?_)
        repeat' ((conv => whnf); first | refine Q.E ?_ | (refine Stk.both (fun hb => ?_) (fun hb => ?_) <;> (try simp only [lE] at hb))); all_goals (conv => whnf)
        all_goals first | (exfalso; omega) | ((refine FinK.of (h := ?_)); (repeat' (first | exact FinL.nil | refine FinL.cons ?_ ?_ | refine Fin'.tup ?_ | exact Q.f3 | exact Q.f4 | exact Q.f5 | exact Q.f6 | refine Fin'.vb ?_ | refine Fin'.vi ?_ | refine Fin'.agg ?_)))
  | true =>
    obtain ⟨he, h2, h3, hm, h5, h6⟩ := few_parts h1
    rw [he] at je
    rw [hm] at jt
    unfold fewR
    rw [h1, Bool.true_and]
    refine ⟨?_⟩; refine Spec.ofR (h := fun F w0 => ?_)
    repeat' ((conv => whnf); first | refine Q.E ?_ | (refine Stk.both (fun hb => ?_) (fun hb => ?_) <;> (try simp only [lE] at hb))); all_goals (conv => whnf)
    refine Stk.loop (ι := Nat) (fun i => [(1, .lp 1 0), (3, PV.int (i : Nat))]) (fun _ => [(1, .box r.cs)]) (fun i => i ≤ r.known.length ∧ ∀ x ∈ r.known.take i, (!fewK x) = false) (fun i => r.known.length - i) 0 ⟨Nat.zero_le _, by simp⟩ (Weak.gc ⟨rfl, rfl, trivial⟩ ⟨rfl, trivial⟩ rfl rfl rfl) (fun i hi => ?_)
    obtain ⟨hi, hno⟩ := hi
    by_cases hlt : i < r.known.length
    · have j1 := fewkno_spec r.known[i]
      cases hq : fewK r.known[i] with
      | false =>
        rw [hq] at j1
        rw [all_bad hlt hq]
        repeat' ((conv => whnf); first | refine Q.E ?_ | (refine Stk.both (fun hb => ?_) (fun hb => ?_) <;> (try simp only [lE] at hb))); all_goals (conv => whnf)
        ((refine FinK.of (h := ?_)); (repeat' (first | exact FinL.nil | refine FinL.cons ?_ ?_ | refine Fin'.tup ?_ | exact Q.f3 | exact Q.f4 | exact Q.f5 | exact Q.f6 | refine Fin'.vb ?_ | refine Fin'.vi ?_ | refine Fin'.agg ?_)))
      | true =>
        rw [hq] at j1
        repeat' ((conv => whnf); first | refine Q.E ?_ | (refine Stk.both (fun hb => ?_) (fun hb => ?_) <;> (try simp only [lE] at hb))); all_goals (conv => whnf)
        exact ⟨i + 1, ⟨by omega, take_no (p := fun x => !fewK x) hlt hno (by show (!fewK r.known[i]) = false; rw [hq]; rfl)⟩, by omega, Weak.gc ⟨rfl, rfl, trivial⟩ ⟨rfl, trivial⟩ rfl rfl rfl⟩
    · rw [all_good hlt hno, Bool.true_and]
      repeat' ((conv => whnf); first | refine Q.E ?_ | (refine Stk.both (fun hb => ?_) (fun hb => ?_) <;> (try simp only [lE] at hb))); all_goals (conv => whnf)
      refine Stk.loop (ι := Nat) (fun i => [(1, .lp 1 0), (4, PV.int (i : Nat))]) (fun _ => [(1, .box r.cs)]) (fun i => i ≤ r.done.length ∧ ∀ x ∈ r.done.take i, (!decide (x.length ≤ 100)) = false) (fun i => r.done.length - i) 0 ⟨Nat.zero_le _, by simp⟩ (Weak.gc ⟨rfl, rfl, trivial⟩ ⟨rfl, trivial⟩ rfl rfl rfl) (fun i hi => ?_)
      obtain ⟨hi, hno⟩ := hi
      by_cases hlt : i < r.done.length
      · by_cases hq : r.done[i].length ≤ 100
        · repeat' ((conv => whnf); first | refine Q.E ?_ | (refine Stk.both (fun hb => ?_) (fun hb => ?_) <;> (try simp only [lE] at hb))); all_goals (conv => whnf)
          exact ⟨i + 1, ⟨by omega, take_no (p := fun x => !decide (x.length ≤ 100)) hlt hno (by show (!decide (r.done[i].length ≤ 100)) = false; rw [decide_eq_true hq]; rfl)⟩, by omega, Weak.gc ⟨rfl, rfl, trivial⟩ ⟨rfl, trivial⟩ rfl rfl rfl⟩
        · rw [all_bad (p := fun l => decide (l.length ≤ 100)) hlt (decide_eq_false hq)]
          repeat' ((conv => whnf); first | refine Q.E ?_ | (refine Stk.both (fun hb => ?_) (fun hb => ?_) <;> (try simp only [lE] at hb))); all_goals (conv => whnf)
          ((refine FinK.of (h := ?_)); (repeat' (first | exact FinL.nil | refine FinL.cons ?_ ?_ | refine Fin'.tup ?_ | exact Q.f3 | exact Q.f4 | exact Q.f5 | exact Q.f6 | refine Fin'.vb ?_ | refine Fin'.vi ?_ | refine Fin'.agg ?_)))
      · rw [all_good (p := fun l => decide (l.length ≤ 100)) hlt hno, Bool.true_and]
        by_cases hi60 : r.items.length ≤ 60
        · rw [decide_eq_true hi60, Bool.true_and]
          repeat' ((conv => whnf); first | refine Q.E ?_ | (refine Stk.both (fun hb => ?_) (fun hb => ?_) <;> (try simp only [lE] at hb))); all_goals (conv => whnf)
          ((refine FinK.of (h := ?_)); (repeat' (first | exact FinL.nil | refine FinL.cons ?_ ?_ | refine Fin'.tup ?_ | exact Q.f3 | exact Q.f4 | exact Q.f5 | exact Q.f6 | refine Fin'.vb ?_ | refine Fin'.vi ?_ | refine Fin'.agg ?_)))
          rw [tst_eq, decide_eq_decide]
          omega
        · rw [decide_eq_false hi60, Bool.false_and]
          repeat' ((conv => whnf); first | refine Q.E ?_ | (refine Stk.both (fun hb => ?_) (fun hb => ?_) <;> (try simp only [lE] at hb))); all_goals (conv => whnf)
          ((refine FinK.of (h := ?_)); (repeat' (first | exact FinL.nil | refine FinL.cons ?_ ?_ | refine Fin'.tup ?_ | exact Q.f3 | exact Q.f4 | exact Q.f5 | exact Q.f6 | refine Fin'.vb ?_ | refine Fin'.vi ?_ | refine Fin'.agg ?_)))
end Go.Proofs.YtbjepdfnmbdplaaGreat
end
section
namespace Go.Proofs.YtbjepdfnmbdplaaGreat
open Go.RowKit
set_option linter.unusedSimpArgs false
set_option linter.unusedVariables false
set_option maxRecDepth 100000
set_option maxHeartbeats 4000000
theorem noIdB_map {α : Type} {f : α → List PV} {id t sz ver : Nat} (h : ∀ x, noIdL id (f x) = true) (l : List α) : LB.noId id (.row t sz ver (l.map f)) = true := List.all_eq_true.2 fun e he => by
  obtain ⟨x, _, rfl⟩ := List.mem_map.1 he
  exact h x
theorem newtab_spec (N : Nat) (hn : 3 ≤ N ∧ N ≤ 9) : HasSpec Tryz.prog 120 [PV.int (N : Nat)] (.tup [PV.tab (List.replicate N (List.replicate N 0)), PV.int 0]) := by
  generalize hZ : List.replicate N (0 : Int) = Z
  refine ⟨?_⟩; refine Spec.ofR (h := fun F w0 => ?_)
  repeat' ((conv => whnf); first | refine Q.E ?_ | (refine Stk.both (fun hb => ?_) (fun hb => ?_) <;> (try simp only [lE] at hb))); all_goals (conv => whnf)
  refine Stk.loop (ι := Nat) (fun i => [(0, PV.int (N : Nat)), (4, .row 4 i), (5, PV.int (i : Nat))]) (fun i => [(4, .row 26 1 i ((List.replicate i Z).map rcs))]) (fun i => i ≤ N) (fun i => N - i) 0 (Nat.zero_le _) (Weak.trans (Weak.nilrow (t := 4) (id := 4) (rt := 26) (sz := 1) rfl rfl) (Weak.gc ⟨rfl, rfl, rfl, trivial⟩ ⟨rfl, trivial⟩ rfl rfl rfl)) (fun i hi => ?_)
  have htl : (List.replicate i Z).length = i := List.length_replicate
  have hrs : List.replicate (i + 1) Z = List.replicate i Z ++ [Z] := List.replicate_succ'
  generalize hT : List.replicate i Z = T at *
  by_cases hlt : i < N
  · repeat' ((conv => whnf); first | refine Q.E ?_ | (refine Stk.both (fun hb => ?_) (fun hb => ?_) <;> (try simp only [lE] at hb))); all_goals (conv => whnf)
    refine Stk.loopW (ι := Nat) (fun k => [(0, PV.int (N : Nat)), (4, .row 4 i), (5, PV.int (i : Nat)), (6, .row 6 k), (7, PV.int (k : Nat))]) (fun k => [(4, .row 26 1 i (T.map rcs)), (6, .row 3 1 k ((List.replicate k (0 : Int)).map ics))]) (fun k => k ≤ N) (fun k => N - k) 0 (Nat.zero_le _) (Weak.trans (Weak.nilrow (t := 6) (id := 6) (rt := 3) (sz := 1) rfl rfl) (Weak.gc ⟨rfl, rfl, rfl, rfl, rfl, trivial⟩ ⟨rfl, rfl, trivial⟩ rfl (onlyH_row (fun _ => rfl) rfl) rfl)) (fun k hk => ?_)
    have hul : (List.replicate k (0 : Int)).length = k := List.length_replicate
    have hus : List.replicate (k + 1) (0 : Int) = List.replicate k 0 ++ [0] := List.replicate_succ'
    by_cases hlt2 : k < N
    · generalize hU : List.replicate k (0 : Int) = U at *
      repeat' ((conv => whnf); first | refine Q.E ?_ | (refine Stk.both (fun hb => ?_) (fun hb => ?_) <;> (try simp only [lE] at hb))); all_goals (conv => whnf)
      (refine Stk.app rfl Q.app ?_)
      repeat' ((conv => whnf); first | refine Q.E ?_ | (refine Stk.both (fun hb => ?_) (fun hb => ?_) <;> (try simp only [lE] at hb))); all_goals (conv => whnf)
      refine ⟨k + 1, by show k + 1 ≤ N; omega, by omega, ?_⟩
      rw [hus]
      exact Weak.gc ⟨rfl, rfl, rfl, rfl, rfl, trivial⟩ ⟨rfl, by rw [List.map_append]; rfl, trivial⟩ rfl (onlyH_row (fun _ => rfl) (onlyH_row (fun _ => rfl) rfl)) rfl
    · obtain rfl : k = N := by omega
      rw [hZ]
      repeat' ((conv => whnf); first | refine Q.E ?_ | (refine Stk.both (fun hb => ?_) (fun hb => ?_) <;> (try simp only [lE] at hb))); all_goals (conv => whnf)
      refine ⟨[(0, PV.int (k : Nat)), (4, .row 4 i), (5, PV.int (i : Nat)), (6, PV.ints Z)], [(4, .row 26 1 i (T.map rcs))], Weak.frz (id := 6) (ver := k) (rt := 3) (sz := 1) (xs := Z.map ics) rfl (all_map_closed (fun _ => rfl) _) ⟨.inl ⟨rfl, rfl⟩, .inl ⟨rfl, rfl⟩, .inl ⟨rfl, rfl⟩, .inr ⟨rfl, rfl⟩, trivial⟩ ⟨⟨by decide, noIdB_map (fun _ => rfl) T, rfl⟩, trivial⟩ rfl, ?_⟩
      repeat' ((conv => whnf); first | refine Q.E ?_ | (refine Stk.both (fun hb => ?_) (fun hb => ?_) <;> (try simp only [lE] at hb))); all_goals (conv => whnf)
      (refine Stk.app rfl Q.app ?_)
      repeat' ((conv => whnf); first | refine Q.E ?_ | (refine Stk.both (fun hb => ?_) (fun hb => ?_) <;> (try simp only [lE] at hb))); all_goals (conv => whnf)
      refine ⟨i + 1, by show i + 1 ≤ k; omega, by omega, ?_⟩
      rw [hrs]
      exact Weak.gc ⟨rfl, rfl, rfl, trivial⟩ ⟨by rw [List.map_append]; rfl, trivial⟩ rfl (onlyH_row (fun _ => rfl) rfl) rfl
  · obtain rfl : i = N := by omega
    rw [← hT]
    repeat' ((conv => whnf); first | refine Q.E ?_ | (refine Stk.both (fun hb => ?_) (fun hb => ?_) <;> (try simp only [lE] at hb))); all_goals (conv => whnf)
    ((refine FinK.of (h := ?_)); (repeat' (first | exact FinL.nil | refine FinL.cons ?_ ?_ | refine Fin'.tup ?_ | exact Q.f3 | exact Q.f4 | exact Q.f5 | exact Q.f6 | refine Fin'.vb ?_ | refine Fin'.vi ?_ | refine Fin'.agg ?_)))
def tab3 : List (List Int) := [[0, 0, 0], [0, 0, 0], [0, 0, 0]]
theorem new18_3 : HasSpec Tryz.prog 120 [PV.int 3] (.tup [PV.tab tab3, PV.int 0]) := newtab_spec 3 (by omega)
def kno0 : Kno := ⟨0, [], []⟩
def newRpl (s : Int) : Rpl := ⟨3, 1, s, 0, 0, 0, 0, [], [], [kno0, kno0, kno0], tab3, [0, 0, 0], [[], [], []], ⟨0, 0⟩, 0, [], []⟩
def knoW : List PV := [PV.int 0, .v (.slice none 0 0), .v (.slice none 0 0)]
def donW : List PV := [.v (.slice none 0 0)]
def newW (s : Int) : List PV := [PV.int 3, PV.int 1, PV.int s, PV.int 0, PV.int 0, PV.int 0, PV.int 0, .v (.slice none 0 0), .v (.slice none 0 0), .sl 3 [knoW, knoW, knoW], PV.tab tab3, .sl 1 [[PV.int 0], [PV.int 0], [PV.int 0]], .sl 1 [donW, donW, donW], PV.int 0, PV.int 0, PV.int 0, .v (.slice none 0 0), .v (.slice none 0 0)]
theorem knoW_sub : SubXL knoW kno0.cs := .cons (.refl _) (.cons (.nil _) (.cons (.nil _) .nil))
theorem donW_sub : SubXL donW (dcs []) := .cons (.nil _) .nil
theorem newW_sub (s : Int) : SubXL (newW s) (newRpl s).cs :=
  .cons (.refl _) (.cons (.refl _) (.cons (.refl _) (.cons (.refl _) (.cons (.refl _) (.cons (.refl _) (.cons (.refl _) (.cons (.nil _) (.cons (.nil _) (.cons (SubX.sl (.cons knoW_sub (.cons knoW_sub (.cons knoW_sub .nil)))) (.cons (.refl _) (.cons (.refl _) (.cons (SubX.sl (.cons donW_sub (.cons donW_sub (.cons donW_sub .nil)))) (.cons (.refl _) (.cons (.refl _) (.cons (.refl _) (.cons (.nil _) (.cons (.nil _) .nil)))))))))))))))))
theorem new25_spec (s : Int) (hs : 1 ≤ s ∧ s ≤ 3) : HasSpec Tryz.prog 46 [PV.int 3, PV.int 1, PV.int s] (.tup [.agg (newRpl s).cs, PV.int 0]) := by
  refine HasSpec.mono (r := .tup [.agg (newW s), PV.int 0]) ?_ (SubX.tup (.cons (SubX.agg (newW_sub s)) (.cons (.refl _) .nil)))
  have j1 := rsizeok (n := 3) (f := 1) (by decide)
  have j2 := new18_3
  unfold newW
  generalize tab3 = M at *
  refine ⟨?_⟩; refine Spec.ofR (h := fun F w0 => ?_)
  repeat' ((conv => whnf); first | refine Q.E ?_ | (refine Stk.both (fun hb => ?_) (fun hb => ?_) <;> (try simp only [lE] at hb))); all_goals (conv => whnf)
  refine Stk.unroll 4 ?_
  repeat' ((conv => whnf); first | refine Q.E ?_ | (refine Stk.both (fun hb => ?_) (fun hb => ?_) <;> (try simp only [lE] at hb))); all_goals (conv => whnf)
  refine Stk.weak (Weak.nilrow (t := 48) (id := 91) (rt := 81) (sz := 3) rfl rfl) ?_ trivial
  repeat' ((conv => whnf); first | refine Q.E ?_ | (refine Stk.both (fun hb => ?_) (fun hb => ?_) <;> (try simp only [lE] at hb))); all_goals (conv => whnf)
  (refine Stk.app rfl Q.app ?_)
  repeat' ((conv => whnf); first | refine Q.E ?_ | (refine Stk.both (fun hb => ?_) (fun hb => ?_) <;> (try simp only [lE] at hb))); all_goals (conv => whnf)
  refine Stk.weak (Weak.nilrow (t := 54) (id := 92) (rt := 3) (sz := 1) rfl rfl) ?_ trivial
  repeat' ((conv => whnf); first | refine Q.E ?_ | (refine Stk.both (fun hb => ?_) (fun hb => ?_) <;> (try simp only [lE] at hb))); all_goals (conv => whnf)
  (refine Stk.app rfl Q.app ?_)
  repeat' ((conv => whnf); first | refine Q.E ?_ | (refine Stk.both (fun hb => ?_) (fun hb => ?_) <;> (try simp only [lE] at hb))); all_goals (conv => whnf)
  refine Stk.weak (Weak.nilrow (t := 59) (id := 93) (rt := 79) (sz := 1) rfl rfl) ?_ trivial
  repeat' ((conv => whnf); first | refine Q.E ?_ | (refine Stk.both (fun hb => ?_) (fun hb => ?_) <;> (try simp only [lE] at hb))); all_goals (conv => whnf)
  (refine Stk.app rfl Q.app ?_)
  repeat' ((conv => whnf); first | refine Q.E ?_ | (refine Stk.both (fun hb => ?_) (fun hb => ?_) <;> (try simp only [lE] at hb))); all_goals (conv => whnf)
  (refine Stk.app rfl Q.app ?_)
  repeat' ((conv => whnf); first | refine Q.E ?_ | (refine Stk.both (fun hb => ?_) (fun hb => ?_) <;> (try simp only [lE] at hb))); all_goals (conv => whnf)
  (refine Stk.app rfl Q.app ?_)
  repeat' ((conv => whnf); first | refine Q.E ?_ | (refine Stk.both (fun hb => ?_) (fun hb => ?_) <;> (try simp only [lE] at hb))); all_goals (conv => whnf)
  (refine Stk.app rfl Q.app ?_)
  repeat' ((conv => whnf); first | refine Q.E ?_ | (refine Stk.both (fun hb => ?_) (fun hb => ?_) <;> (try simp only [lE] at hb))); all_goals (conv => whnf)
  (refine Stk.app rfl Q.app ?_)
  repeat' ((conv => whnf); first | refine Q.E ?_ | (refine Stk.both (fun hb => ?_) (fun hb => ?_) <;> (try simp only [lE] at hb))); all_goals (conv => whnf)
  (refine Stk.app rfl Q.app ?_)
  repeat' ((conv => whnf); first | refine Q.E ?_ | (refine Stk.both (fun hb => ?_) (fun hb => ?_) <;> (try simp only [lE] at hb))); all_goals (conv => whnf)
  (refine Stk.app rfl Q.app ?_)
  repeat' ((conv => whnf); first | refine Q.E ?_ | (refine Stk.both (fun hb => ?_) (fun hb => ?_) <;> (try simp only [lE] at hb))); all_goals (conv => whnf)
  ((refine FinK.of (h := ?_)); (repeat' (first | exact FinL.nil | refine FinL.cons ?_ ?_ | refine Fin'.tup ?_ | exact Q.f3 | exact Q.f4 | exact Q.f5 | exact Q.f6 | refine Fin'.vb ?_ | refine Fin'.vi ?_ | refine Fin'.agg ?_)))
end Go.Proofs.YtbjepdfnmbdplaaGreat
end
section
namespace Go.Proofs.YtbjepdfnmbdplaaGreat
open Go.RowKit
set_option linter.unusedSimpArgs false
set_option linter.unusedVariables false
set_option maxRecDepth 100000
theorem ents_nil : entsB [] = true := ents_pw.2 ⟨by simp, by simp, by simp⟩
theorem ents_one {e : Ent} (h : entB e = true) : entsB [e] = true := ents_pw.2 ⟨by simp, by simpa using h, by simp⟩
theorem newRep (s : Int) (hs : 1 ≤ s ∧ s ≤ 3) : repB (newRpl s) = true := by
  have h1 : numsB (newRpl s) = true := by
    unfold numsB newRpl
    rw [Bool.and_eq_true]
    exact ⟨decide_eq_true (by simp only; omega), rfl⟩
  have h2 : cmdB (newRpl s) = true := by
    unfold cmdB
    show (entsB [] && true) = true
    rw [ents_nil]
    rfl
  unfold repB
  rw [h1, h2]
  rfl
theorem one_put {r : Rpl} {l : List Ent} {e : Ent} (hr : repB r = true) (he : r.entries = l) (hl : l = [] ∨ ∃ x, l = [x] ∧ x.id = e.id ∧ entB x = true) (h1 : entB e = true) (h2 : 1 ≤ selfI e.id ∧ selfI e.id ≤ r.n) (h3 : doneAt r e.id = false) : rputX r e = 0 ∧ putE r.entries e = [e] := by
  subst he
  have hd : ¬ (doneAt r e.id = true ∧ e.phase ≠ 6) := fun h => by rw [h3] at h; cases h.1
  rw [rputX_put ⟨hr, h2⟩ hd]
  rcases hl with hl | ⟨x, hl, hx, h4⟩
  · rw [hl]
    refine ⟨?_, rfl⟩
    unfold putX
    rw [if_neg (not_not_intro ⟨ents_nil, h1⟩), if_neg (by simp [findB]), if_pos (by simp)]
  · rw [hl]
    have hf : findB [x] e.id = true := by simp [findB, isId, hx]
    refine ⟨?_, ?_⟩
    · unfold putX
      rw [if_neg (not_not_intro ⟨ents_one h4, h1⟩), if_pos hf]
    · unfold putE
      rw [if_pos hf, show posE [x] e.id = 0 from by simp [posE, hx]]
      rfl
def hiP : ByteArray := ⟨#[104, 105]⟩
def accM : Msg := ⟨3, 1, 11, 5, 1, 0, 0, 3, hiP, 0, 0, [], [], 0⟩
def eN : Ent := ⟨11, 1, 3, 0, 0, 0, 0, 0, hiP, []⟩
def eA : Ent := ⟨11, 1, 3, 5, 1, 1, 0, 0, hiP, []⟩
def eC : Ent := ⟨11, 5, 3, 5, 1, 1, 0, 0, hiP, []⟩
def e1 : Ent := ⟨11, 2, 3, 5, 1, 1, 0, 0, hiP, [⟨2, 1, 1, 0, 0, 0⟩]⟩
def e2 : Ent := ⟨11, 2, 3, 5, 1, 1, 0, 0, hiP, [⟨2, 1, 1, 0, 0, 0⟩, ⟨2, 2, 1, 0, 0, 0⟩]⟩
def e8 : Ent := ⟨11, 2, 3, 5, 1, 1, 9, 0, hiP, [⟨2, 1, 1, 0, 0, 0⟩]⟩
def oneR (s : Int) (e : Ent) (c : Int) : Rpl := { newRpl s with entries := [e], clock := c }
theorem oneRep {s : Int} (hs : 1 ≤ s ∧ s ≤ 3) {e : Ent} (h : entB e = true) (hi : selfI e.id ≤ 3) {c : Int} (hc : 0 ≤ c ∧ c ≤ 1000000) : repB (oneR s e c) = true :=
  rep_with (newRep s hs) (ents_one h) (by intro x hx; rw [List.mem_singleton] at hx; subst hx; exact hi) hc.1 hc.2
theorem aN : entB eN = true := by decide
theorem aA : entB eA = true := by decide
theorem aC : entB eC = true := by decide
theorem a1 : entB e1 = true := by decide
theorem a2 : entB e2 = true := by decide
theorem a8 : entB e8 = true := by decide
theorem hears_of {r : Rpl} {m : Msg} (h1 : repB r = true) (h2 : msgB m = true) (h3 : m.fr ≤ r.n ∧ m.fr ≠ r.self ∧ selfI m.id ≤ r.n ∧ m.quorum < 2 ^ r.n.toNat) : hearsB r m = true := by
  unfold hearsB
  rw [h1, h2, decide_eq_true h3]
  rfl
theorem doneB_no {r : Rpl} {id : Int} (h : doneAt r id = false) : doneB r id = false := by unfold doneB; rw [h, Bool.and_false]
theorem lrn_old {r : Rpl} {id q : Int} {p : ByteArray} {e : Ent} (hr : repB r = true) (hd : doneAt r id = false) (hf : findB r.entries id = true) (ht : findT r.entries id = e) : lrnB r id q p = true ∧ lrnR r id q p = r ∧ lrnE r id q p = e := by
  have h : repB r = true ∧ doneB r id = false := ⟨hr, doneB_no hd⟩
  exact ⟨(if_pos h).trans (if_pos hf), (if_pos h).trans (if_pos hf), (if_pos h).trans ((if_pos hf).trans ht)⟩
theorem lrn_new {r : Rpl} {id q : Int} {p : ByteArray} (hr : repB r = true) (hd : doneAt r id = false) (hf : findB r.entries id = false) (he : entB (.new id q p) = true) (hx : rputX r (.new id q p) = 0) : lrnB r id q p = true ∧ lrnR r id q p = { r with entries := putE r.entries (.new id q p) } ∧ lrnE r id q p = .new id q p := by
  have hn : ¬ findB r.entries id = true := by rw [hf]; simp
  have h : repB r = true ∧ doneB r id = false := ⟨hr, doneB_no hd⟩
  exact ⟨(if_pos h).trans ((if_neg hn).trans (if_pos ⟨he, hx⟩)), (if_pos h).trans ((if_neg hn).trans ((if_pos he).trans (rputR_yes hx))), (if_pos h).trans ((if_neg hn).trans (if_pos ⟨he, hx⟩))⟩
theorem one_puts {s c : Int} (hs : 1 ≤ s ∧ s ≤ 3) (hc : 0 ≤ c ∧ c ≤ 1000000) {x e : Ent} (hx : entB x = true) (he : entB e = true) (h1 : x.id = 11) (h2 : e.id = 11) : rputX (oneR s x c) e = 0 ∧ putE (oneR s x c).entries e = [e] :=
  one_put (oneRep hs hx (by rw [h1]; decide) hc) rfl (.inr ⟨x, rfl, by rw [h1, h2], hx⟩) he (by rw [h2]; exact ⟨by decide, show selfI 11 ≤ 3 by decide⟩) (by rw [h2]; rfl)
theorem one_bmp {s c t : Int} (hs : 1 ≤ s ∧ s ≤ 3) (hc : 0 ≤ c ∧ c ≤ 1000000) {x e : Ent} (hx : entB x = true) (he : entB e = true) (h1 : x.id = 11) (h2 : e.id = 11) : bmpR (oneR s x c) e t = oneR s e (bumpI c t) := by
  obtain ⟨h3, h4⟩ := one_puts hs hc hx he h1 h2
  unfold bmpR
  rw [if_pos h3, h4]
  rfl
theorem f1 : onAcc (newRpl 2) accM = (oneR 2 eA 5, [⟨1, ⟨4, 2, 11, 0, 1, 0, 0, 0, noByte, 0, 0, [], [], 0⟩⟩]) := by
  have hr := newRep 2 (by omega)
  obtain ⟨p1, p2⟩ := one_put (r := newRpl 2) (e := eN) hr rfl (.inl rfl) aN ⟨by decide, by decide⟩ rfl
  obtain ⟨l1, l2, l3⟩ := lrn_new (r := newRpl 2) (id := 11) (q := 3) (p := hiP) hr rfl rfl aN p1
  have l2' : lrnR (newRpl 2) 11 3 hiP = oneR 2 eN 0 := by rw [l2, show Ent.new 11 3 hiP = eN from rfl, p2]; rfl
  have l3' : lrnE (newRpl 2) 11 3 hiP = eN := l3
  obtain ⟨q1, q2⟩ := one_puts (s := 2) (c := 0) (by omega) (by omega) aN aA rfl rfl
  unfold onAcc
  rw [if_pos ⟨by decide, by decide, hears_of hr (by decide) (by decide), l1⟩]
  show (if settB (lrnE (newRpl 2) 11 3 hiP).phase = true then _ else _) = _
  rw [show lrnE (newRpl 2) accM.id accM.quorum accM.payload = eN from l3', show lrnR (newRpl 2) accM.id accM.quorum accM.payload = oneR 2 eN 0 from l2', l3']
  rw [if_neg (by decide), if_neg (by decide), show accE eN accM.t accM.bal = eA from rfl, if_pos ⟨by decide, q1⟩, one_bmp (by omega) (by omega) aN aA rfl rfl]
  rfl
def m4 : Msg := ⟨4, 2, 11, 0, 1, 0, 0, 0, noByte, 0, 0, [], [], 0⟩
def m5 : Msg := ⟨5, 1, 11, 5, 0, 0, 0, 3, hiP, 0, 0, [], [], 0⟩
def m8 : Msg := ⟨8, 3, 11, 0, 9, 0, 0, 0, noByte, 0, 0, [], [], 0⟩
theorem cmt_one {s c t : Int} (hs : 1 ≤ s ∧ s ≤ 3) (hc : 0 ≤ c ∧ c ≤ 1000000) {x e : Ent} (hx : entB x = true) (he : entB e = true) (h1 : x.id = 11) (h2 : e.id = 11) (hX : commX e t = 0) (he2 : entB (commE e t) = true) (h3 : (commE e t).id = 11) : cmtB (oneR s x c) e t = true ∧ cmtR (oneR s x c) e t = oneR s (commE e t) (bumpI c t) := by
  obtain ⟨h4, h5⟩ := one_puts hs hc hx he2 h1 h3
  refine ⟨(if_pos hX).trans ?_, (if_pos hX).trans (one_bmp hs hc hx he2 h1 h3)⟩
  unfold bmpB
  exact @decide_eq_true _ (_) h4
theorem f2 : onAcd (oneR 1 e1 0) m4 = (oneR 1 { e2 with phase := 5, acks := [] } 5, [⟨2, m5⟩, ⟨3, m5⟩]) := by
  have hr := oneRep (s := 1) (c := 0) (by omega) a1 (by decide) (by omega)
  obtain ⟨q1, q2⟩ := one_puts (s := 1) (c := 0) (by omega) (by omega) a1 a2 rfl rfl
  obtain ⟨c1, c2⟩ := cmt_one (s := 1) (c := 0) (t := 5) (by omega) (by omega) a2 a2 rfl rfl (by decide) (by decide) rfl
  have hr2 := oneRep (s := 1) (e := commE e2 5) (c := 5) (by omega) (by decide) (by decide) (by omega)
  have hput : rputR (oneR 1 e1 0) e2 = oneR 1 e2 0 := by rw [rputR_yes q1, q2]; rfl
  have hack : ackR e1 (accA m4) = e2 := rfl
  unfold onAcd
  rw [if_pos ⟨by decide, hears_of hr (by decide) (by decide), by decide, by decide⟩]
  show (if openB e1.phase = true ∧ e1.bal = m4.bal ∧ e1.abal = m4.bal ∧ ackB e1 (accA m4) = true ∧ rputX (oneR 1 e1 0) (ackR e1 (accA m4)) = 0 then (if wonB (ackR e1 (accA m4)) m4.bal (oneR 1 e1 0).f = true then (if cmtB (rputR (oneR 1 e1 0) (ackR e1 (accA m4))) (ackR e1 (accA m4)) (ackR e1 (accA m4)).t = true then (cmtR (rputR (oneR 1 e1 0) (ackR e1 (accA m4))) (ackR e1 (accA m4)) (ackR e1 (accA m4)).t, allO (cmtR (rputR (oneR 1 e1 0) (ackR e1 (accA m4))) (ackR e1 (accA m4)) (ackR e1 (accA m4)).t) (tolM (rputR (oneR 1 e1 0) (ackR e1 (accA m4))) (ackR e1 (accA m4)))) else ((oneR 1 e1 0), [])) else (rputR (oneR 1 e1 0) (ackR e1 (accA m4)), [])) else ((oneR 1 e1 0), [])) = _
  rw [hack, hput, if_pos ⟨by decide, by decide, by decide, by decide, q1⟩, if_pos (by decide), show e2.t = 5 from rfl, if_pos c1, c2, show bumpI 0 5 = 5 from rfl]
  unfold allO
  rw [if_pos hr2]
  rfl
theorem f3 : onCmt (oneR 2 eA 5) m5 = (oneR 2 eC 5, []) := by
  have hr := oneRep (s := 2) (c := 5) (by omega) aA (by decide) (by omega)
  obtain ⟨l1, l2, l3⟩ := lrn_old (r := oneR 2 eA 5) (id := 11) (q := 3) (p := hiP) (e := eA) hr rfl rfl rfl
  obtain ⟨c1, c2⟩ := cmt_one (s := 2) (c := 5) (t := 5) (by omega) (by omega) aA aA rfl rfl (by decide) (by decide) rfl
  unfold onCmt
  rw [if_pos ⟨by decide, hears_of hr (by decide) (by decide), l1⟩]
  show (if settB (lrnE (oneR 2 eA 5) 11 3 hiP).phase = true then (lrnR (oneR 2 eA 5) 11 3 hiP, []) else if cmtB (lrnR (oneR 2 eA 5) 11 3 hiP) (lrnE (oneR 2 eA 5) 11 3 hiP) 5 = true then (cmtR (lrnR (oneR 2 eA 5) 11 3 hiP) (lrnE (oneR 2 eA 5) 11 3 hiP) 5, []) else (oneR 2 eA 5, [])) = _
  rw [l2, l3, if_neg (by decide), if_pos c1, c2]
  rfl
theorem f4 : onAcc (oneR 2 eC 5) accM = (oneR 2 eC 5, [⟨1, ⟨5, 2, 11, 5, 0, 0, 0, 3, hiP, 0, 0, [], [], 0⟩⟩]) := by
  have hr := oneRep (s := 2) (c := 5) (by omega) aC (by decide) (by omega)
  obtain ⟨l1, l2, l3⟩ := lrn_old (r := oneR 2 eC 5) (id := 11) (q := 3) (p := hiP) (e := eC) hr rfl rfl rfl
  unfold onAcc
  rw [if_pos ⟨by decide, by decide, hears_of hr (by decide) (by decide), l1⟩]
  show (if settB (lrnE (oneR 2 eC 5) 11 3 hiP).phase = true then (lrnR (oneR 2 eC 5) 11 3 hiP, helpO (lrnR (oneR 2 eC 5) 11 3 hiP) (lrnE (oneR 2 eC 5) 11 3 hiP) 1) else _) = _
  rw [if_pos (by rw [l3]; decide), l2, l3]
  unfold helpO
  rw [if_pos ⟨by decide, hr, by decide, by decide, by decide⟩]
  rfl
theorem f5 : onRef (oneR 1 e1 0) m8 = (oneR 1 e8 0, []) := by
  have hr := oneRep (s := 1) (c := 0) (by omega) a1 (by decide) (by omega)
  obtain ⟨q1, q2⟩ := one_puts (s := 1) (c := 0) (by omega) (by omega) a1 a8 rfl rfl
  have hh : hearE (findT (oneR 1 e1 0).entries m8.id) m8.bal = e8 := rfl
  unfold onRef
  rw [hh, if_pos ⟨by decide, hears_of hr (by decide) (by decide), by decide, q1⟩, rputR_yes q1, q2]
  rfl
theorem f6 : helpO (oneR 2 eC 5) eC 2 = [] := by
  unfold helpO
  rw [if_neg]
  rintro ⟨_, _, _, _, h⟩
  exact h rfl
end Go.Proofs.YtbjepdfnmbdplaaGreat
end
section
namespace Go.Proofs.YtbjepdfnmbdplaaGreat
open Go.RowKit
set_option linter.unusedSimpArgs false
set_option linter.unusedVariables false
set_option maxRecDepth 100000
set_option maxHeartbeats 4000000
instance accept27_spec : HasSpec Tryz.prog 47 [] (.agg accM.cs) := by
  unfold Msg.cs accM hiP
  refine ⟨?_⟩; refine Spec.ofR (h := fun F w0 => ?_)
  repeat' ((conv => whnf); first | refine Q.E ?_ | (refine Stk.both (fun hb => ?_) (fun hb => ?_) <;> (try simp only [lE] at hb))); all_goals (conv => whnf)
  ((refine FinK.of (h := ?_)); (repeat' (first | exact FinL.nil | refine FinL.cons ?_ ?_ | refine Fin'.tup ?_ | exact Q.f3 | exact Q.f4 | exact Q.f5 | exact Q.f6 | refine Fin'.vb ?_ | refine Fin'.vi ?_ | refine Fin'.agg ?_)))
instance awake27_spec : HasSpec Tryz.prog 13 [] (.v (.bool true)) := by
  have n2 := new25_spec 2 (by omega)
  have n1 := new25_spec 1 (by omega)
  have j1 : HasSpec Tryz.prog 14 [.agg (newRpl 2).cs, .agg accM.cs] (.tup [.agg [PV.int 3, PV.int 1, PV.int 2, PV.int 5, PV.int 0, PV.int 0, PV.int 0, .sl 10 [[PV.int 11, PV.int 1, PV.int 3, PV.int 5, PV.int 1, PV.int 1, PV.int 0, PV.int 0, .v (.string hiP), .sl 6 []]], .sl 2 [], PV.knos [kno0, kno0, kno0], PV.tab tab3, PV.ints [0, 0, 0], PV.dons [[], [], []], PV.int 0, PV.int 0, PV.int 0, .sl 4 [], .sl 3 []], .sl 15 [[PV.int 1, PV.int 4, PV.int 2, PV.int 11, PV.int 0, PV.int 1, PV.int 0, PV.int 0, PV.int 0, .v (.string noByte), PV.int 0, PV.int 0, .sl 2 [], .sl 1 [], PV.int 0]]]) := by
    have := onaccept_spec (newRpl 2) accM
    rw [f1] at this
    exact this
  have j2 : HasSpec Tryz.prog 18 [.agg [PV.int 3, PV.int 1, PV.int 1, PV.int 0, PV.int 0, PV.int 0, PV.int 0, .sl 10 [[PV.int 11, PV.int 2, PV.int 3, PV.int 5, PV.int 1, PV.int 1, PV.int 0, PV.int 0, .v (.string hiP), .sl 6 [[PV.int 2, PV.int 1, PV.int 1, PV.int 0, PV.int 0, PV.int 0]]]], .sl 2 [], PV.knos [kno0, kno0, kno0], PV.tab tab3, PV.ints [0, 0, 0], PV.dons [[], [], []], PV.int 0, PV.int 0, PV.int 0, .sl 4 [], .sl 3 []], .agg [PV.int 4, PV.int 2, PV.int 11, PV.int 0, PV.int 1, PV.int 0, PV.int 0, PV.int 0, .v (.string noByte), PV.int 0, PV.int 0, .sl 2 [], .sl 1 [], PV.int 0]] (.tup [.agg [PV.int 3, PV.int 1, PV.int 1, PV.int 5, PV.int 0, PV.int 0, PV.int 0, .sl 10 [[PV.int 11, PV.int 5, PV.int 3, PV.int 5, PV.int 1, PV.int 1, PV.int 0, PV.int 0, .v (.string hiP), .sl 6 []]], .sl 2 [], PV.knos [kno0, kno0, kno0], PV.tab tab3, PV.ints [0, 0, 0], PV.dons [[], [], []], PV.int 0, PV.int 0, PV.int 0, .sl 4 [], .sl 3 []], .sl 15 [[PV.int 2, PV.int 5, PV.int 1, PV.int 11, PV.int 5, PV.int 0, PV.int 0, PV.int 0, PV.int 3, .v (.string hiP), PV.int 0, PV.int 0, .sl 2 [], .sl 1 [], PV.int 0], [PV.int 3, PV.int 5, PV.int 1, PV.int 11, PV.int 5, PV.int 0, PV.int 0, PV.int 0, PV.int 3, .v (.string hiP), PV.int 0, PV.int 0, .sl 2 [], .sl 1 [], PV.int 0]]]) := by
    have := onaccepted_spec (oneR 1 e1 0) m4
    rw [f2] at this
    exact this
  have j3 : HasSpec Tryz.prog 20 [.agg [PV.int 3, PV.int 1, PV.int 2, PV.int 5, PV.int 0, PV.int 0, PV.int 0, .sl 10 [[PV.int 11, PV.int 1, PV.int 3, PV.int 5, PV.int 1, PV.int 1, PV.int 0, PV.int 0, .v (.string hiP), .sl 6 []]], .sl 2 [], PV.knos [kno0, kno0, kno0], PV.tab tab3, PV.ints [0, 0, 0], PV.dons [[], [], []], PV.int 0, PV.int 0, PV.int 0, .sl 4 [], .sl 3 []], .agg [PV.int 5, PV.int 1, PV.int 11, PV.int 5, PV.int 0, PV.int 0, PV.int 0, PV.int 3, .v (.string hiP), PV.int 0, PV.int 0, .sl 2 [], .sl 1 [], PV.int 0]] (.tup [.agg [PV.int 3, PV.int 1, PV.int 2, PV.int 5, PV.int 0, PV.int 0, PV.int 0, .sl 10 [[PV.int 11, PV.int 5, PV.int 3, PV.int 5, PV.int 1, PV.int 1, PV.int 0, PV.int 0, .v (.string hiP), .sl 6 []]], .sl 2 [], PV.knos [kno0, kno0, kno0], PV.tab tab3, PV.ints [0, 0, 0], PV.dons [[], [], []], PV.int 0, PV.int 0, PV.int 0, .sl 4 [], .sl 3 []], .sl 15 []]) := by
    have := oncommit_spec (oneR 2 eA 5) m5
    rw [f3] at this
    exact this
  have j4 : HasSpec Tryz.prog 14 [.agg [PV.int 3, PV.int 1, PV.int 2, PV.int 5, PV.int 0, PV.int 0, PV.int 0, .sl 10 [[PV.int 11, PV.int 5, PV.int 3, PV.int 5, PV.int 1, PV.int 1, PV.int 0, PV.int 0, .v (.string hiP), .sl 6 []]], .sl 2 [], PV.knos [kno0, kno0, kno0], PV.tab tab3, PV.ints [0, 0, 0], PV.dons [[], [], []], PV.int 0, PV.int 0, PV.int 0, .sl 4 [], .sl 3 []], .agg accM.cs] (.tup [.agg [PV.int 3, PV.int 1, PV.int 2, PV.int 5, PV.int 0, PV.int 0, PV.int 0, .sl 10 [[PV.int 11, PV.int 5, PV.int 3, PV.int 5, PV.int 1, PV.int 1, PV.int 0, PV.int 0, .v (.string hiP), .sl 6 []]], .sl 2 [], PV.knos [kno0, kno0, kno0], PV.tab tab3, PV.ints [0, 0, 0], PV.dons [[], [], []], PV.int 0, PV.int 0, PV.int 0, .sl 4 [], .sl 3 []], .sl 15 [[PV.int 1, PV.int 5, PV.int 2, PV.int 11, PV.int 5, PV.int 0, PV.int 0, PV.int 0, PV.int 3, .v (.string hiP), PV.int 0, PV.int 0, .sl 2 [], .sl 1 [], PV.int 0]]]) := by
    have := onaccept_spec (oneR 2 eC 5) accM
    rw [f4] at this
    exact this
  have j5 : HasSpec Tryz.prog 22 [.agg [PV.int 3, PV.int 1, PV.int 1, PV.int 0, PV.int 0, PV.int 0, PV.int 0, .sl 10 [[PV.int 11, PV.int 2, PV.int 3, PV.int 5, PV.int 1, PV.int 1, PV.int 0, PV.int 0, .v (.string hiP), .sl 6 [[PV.int 2, PV.int 1, PV.int 1, PV.int 0, PV.int 0, PV.int 0]]]], .sl 2 [], PV.knos [kno0, kno0, kno0], PV.tab tab3, PV.ints [0, 0, 0], PV.dons [[], [], []], PV.int 0, PV.int 0, PV.int 0, .sl 4 [], .sl 3 []], .agg [PV.int 8, PV.int 3, PV.int 11, PV.int 0, PV.int 9, PV.int 0, PV.int 0, PV.int 0, .v (.string noByte), PV.int 0, PV.int 0, .v (.slice none 0 0), .v (.slice none 0 0), PV.int 0]] (.tup [.agg [PV.int 3, PV.int 1, PV.int 1, PV.int 0, PV.int 0, PV.int 0, PV.int 0, .sl 10 [[PV.int 11, PV.int 2, PV.int 3, PV.int 5, PV.int 1, PV.int 1, PV.int 9, PV.int 0, .v (.string hiP), .sl 6 [[PV.int 2, PV.int 1, PV.int 1, PV.int 0, PV.int 0, PV.int 0]]]], .sl 2 [], PV.knos [kno0, kno0, kno0], PV.tab tab3, PV.ints [0, 0, 0], PV.dons [[], [], []], PV.int 0, PV.int 0, PV.int 0, .sl 4 [], .sl 3 []], .sl 15 []]) := by
    have := onrefuse_spec (oneR 1 e1 0) m8
    rw [f5] at this
    exact HasSpec.sub (.cons (.refl _) (.cons (msg_sub (m := m8) rfl rfl) .nil)) this
  have j6 : HasSpec Tryz.prog 24 [.agg [PV.int 3, PV.int 1, PV.int 2, PV.int 5, PV.int 0, PV.int 0, PV.int 0, .sl 10 [[PV.int 11, PV.int 5, PV.int 3, PV.int 5, PV.int 1, PV.int 1, PV.int 0, PV.int 0, .v (.string hiP), .sl 6 []]], .sl 2 [], PV.knos [kno0, kno0, kno0], PV.tab tab3, PV.ints [0, 0, 0], PV.dons [[], [], []], PV.int 0, PV.int 0, PV.int 0, .sl 4 [], .sl 3 []], .agg [PV.int 11, PV.int 5, PV.int 3, PV.int 5, PV.int 1, PV.int 1, PV.int 0, PV.int 0, .v (.string hiP), .sl 6 []], PV.int 2] (.sl 15 []) := by
    have := help_spec (oneR 2 eC 5) eC 2
    rw [f6] at this
    exact this
  have q0 : ([] : List (List PV)).length = 0 := rfl
  have q1 : ([[PV.int 11, PV.int 1, PV.int 3, PV.int 5, PV.int 1, PV.int 1, PV.int 0, PV.int 0, .v (.string hiP), .sl 6 []]] : List (List PV)).length = 1 := rfl
  have q2 : ([[PV.int 1, PV.int 4, PV.int 2, PV.int 11, PV.int 0, PV.int 1, PV.int 0, PV.int 0, PV.int 0, .v (.string noByte), PV.int 0, PV.int 0, .sl 2 [], .sl 1 [], PV.int 0]] : List (List PV)).length = 1 := rfl
  have q3 : ([[PV.int 11, PV.int 5, PV.int 3, PV.int 5, PV.int 1, PV.int 1, PV.int 0, PV.int 0, .v (.string hiP), .sl 6 []]] : List (List PV)).length = 1 := rfl
  have q4 : ([[PV.int 2, PV.int 5, PV.int 1, PV.int 11, PV.int 5, PV.int 0, PV.int 0, PV.int 0, PV.int 3, .v (.string hiP), PV.int 0, PV.int 0, .sl 2 [], .sl 1 [], PV.int 0], [PV.int 3, PV.int 5, PV.int 1, PV.int 11, PV.int 5, PV.int 0, PV.int 0, PV.int 0, PV.int 3, .v (.string hiP), PV.int 0, PV.int 0, .sl 2 [], .sl 1 [], PV.int 0]] : List (List PV)).length = 2 := rfl
  have q5 : ([[PV.int 1, PV.int 5, PV.int 2, PV.int 11, PV.int 5, PV.int 0, PV.int 0, PV.int 0, PV.int 3, .v (.string hiP), PV.int 0, PV.int 0, .sl 2 [], .sl 1 [], PV.int 0]] : List (List PV)).length = 1 := rfl
  have q6 : ([[PV.int 11, PV.int 2, PV.int 3, PV.int 5, PV.int 1, PV.int 1, PV.int 9, PV.int 0, .v (.string hiP), .sl 6 [[PV.int 2, PV.int 1, PV.int 1, PV.int 0, PV.int 0, PV.int 0]]]] : List (List PV)).length = 1 := rfl
  refine ⟨?_⟩; refine Spec.ofR (h := fun F w0 => ?_)
  repeat' ((conv => whnf); first | refine Q.E ?_ | (refine Stk.both (fun hb => ?_) (fun hb => ?_) <;> (try simp only [lE] at hb))); all_goals (conv => whnf)
  refine Stk.by j2 (h := ?_)
  repeat' ((conv => whnf); first | refine Q.E ?_ | (refine Stk.both (fun hb => ?_) (fun hb => ?_) <;> (try simp only [lE] at hb))); all_goals (conv => whnf)
  refine Stk.by j3 (h := ?_)
  repeat' ((conv => whnf); first | refine Q.E ?_ | (refine Stk.both (fun hb => ?_) (fun hb => ?_) <;> (try simp only [lE] at hb))); all_goals (conv => whnf)
  refine Stk.by j5 (h := ?_)
  repeat' ((conv => whnf); first | refine Q.E ?_ | (refine Stk.both (fun hb => ?_) (fun hb => ?_) <;> (try simp only [lE] at hb))); all_goals (conv => whnf)
  ((refine FinK.of (h := ?_)); (repeat' (first | exact FinL.nil | refine FinL.cons ?_ ?_ | refine Fin'.tup ?_ | exact Q.f3 | exact Q.f4 | exact Q.f5 | exact Q.f6 | refine Fin'.vb ?_ | refine Fin'.vi ?_ | refine Fin'.agg ?_)))
  exact tst_true.2 rfl
end Go.Proofs.YtbjepdfnmbdplaaGreat
end
section
namespace Go.Proofs.YtbjepdfnmbdplaaGreat
open Go.RowKit
set_option linter.unusedSimpArgs false
set_option linter.unusedVariables false
set_option maxRecDepth 100000
set_option maxHeartbeats 4000000
instance settlehears_spec (r : Rpl) (m : Msg) (e : Ent) : HasSpec Tryz.prog 3 [.agg r.cs, .agg m.cs, .agg e.cs] (.v (.bool true)) := by
  have k1 := fewrep_spec r
  have k2 := fewmsg_spec m
  have k3 := fewent_spec e
  cases h1 : fewR r with
  | false =>
    rw [h1] at k1
    refine ⟨?_⟩; refine Spec.ofR (h := fun F w0 => ?_)
    repeat' ((conv => whnf); first | refine Q.E ?_ | (refine Stk.both (fun hb => ?_) (fun hb => ?_) <;> (try simp only [lE] at hb))); all_goals (conv => whnf)
    all_goals ((refine FinK.of (h := ?_)); (repeat' (first | exact FinL.nil | refine FinL.cons ?_ ?_ | refine Fin'.tup ?_ | exact Q.f3 | exact Q.f4 | exact Q.f5 | exact Q.f6 | refine Fin'.vb ?_ | refine Fin'.vi ?_ | refine Fin'.agg ?_)))
  | true =>
    rw [h1] at k1
    cases h2 : fewM m with
    | false =>
      rw [h2] at k2
      refine ⟨?_⟩; refine Spec.ofR (h := fun F w0 => ?_)
      repeat' ((conv => whnf); first | refine Q.E ?_ | (refine Stk.both (fun hb => ?_) (fun hb => ?_) <;> (try simp only [lE] at hb))); all_goals (conv => whnf)
      all_goals ((refine FinK.of (h := ?_)); (repeat' (first | exact FinL.nil | refine FinL.cons ?_ ?_ | refine Fin'.tup ?_ | exact Q.f3 | exact Q.f4 | exact Q.f5 | exact Q.f6 | refine Fin'.vb ?_ | refine Fin'.vi ?_ | refine Fin'.agg ?_)))
    | true =>
      rw [h2] at k2
      cases h3 : fewE e with
      | false =>
        rw [h3] at k3
        refine ⟨?_⟩; refine Spec.ofR (h := fun F w0 => ?_)
        repeat' ((conv => whnf); first | refine Q.E ?_ | (refine Stk.both (fun hb => ?_) (fun hb => ?_) <;> (try simp only [lE] at hb))); all_goals (conv => whnf)
        all_goals ((refine FinK.of (h := ?_)); (repeat' (first | exact FinL.nil | refine FinL.cons ?_ ?_ | refine Fin'.tup ?_ | exact Q.f3 | exact Q.f4 | exact Q.f5 | exact Q.f6 | refine Fin'.vb ?_ | refine Fin'.vi ?_ | refine Fin'.agg ?_)))
      | true =>
        rw [h3] at k3
        have a1 := onaccept_spec r m
        have b1 := refonaccept_spec r m
        have a2 := onaccepted_spec r m
        have b2 := refonaccepted_spec r m
        have a3 := oncommit_spec r m
        have b3 := refoncommit_spec r m
        have a4 := onrefuse_spec r m
        have b4 := refonrefuse_spec r m
        have a5 := help_spec r e m.fr
        have b5 := refhelp_spec r e m.fr
        generalize (onAcc r m).1 = s1 at *
        generalize (onAcc r m).2 = o1 at *
        generalize (onAcd r m).1 = s2 at *
        generalize (onAcd r m).2 = o2 at *
        generalize (onCmt r m).1 = s3 at *
        generalize (onCmt r m).2 = o3 at *
        generalize (onRef r m).1 = s4 at *
        generalize (onRef r m).2 = o4 at *
        generalize helpO r e m.fr = o5 at *
        have c1 := repself_spec s1
        have c2 := repself_spec s2
        have c3 := repself_spec s3
        have c4 := repself_spec s4
        have d1 := outself_spec o1
        have d2 := outself_spec o2
        have d3 := outself_spec o3
        have d4 := outself_spec o4
        have d5 := outself_spec o5
        refine ⟨?_⟩; refine Spec.ofR (h := fun F w0 => ?_)
        repeat' ((conv => whnf); first | refine Q.E ?_ | (refine Stk.both (fun hb => ?_) (fun hb => ?_) <;> (try simp only [lE] at hb))); all_goals (conv => whnf)
        ((refine FinK.of (h := ?_)); (repeat' (first | exact FinL.nil | refine FinL.cons ?_ ?_ | refine Fin'.tup ?_ | exact Q.f3 | exact Q.f4 | exact Q.f5 | exact Q.f6 | refine Fin'.vb ?_ | refine Fin'.vi ?_ | refine Fin'.agg ?_)))
end Go.Proofs.YtbjepdfnmbdplaaGreat
end
section
namespace Go.Proofs.YtbjepdfnmbdplaaGreat
set_option linter.unusedSectionVars false
open Go.RowKit
set_option linter.unusedSimpArgs false
set_option linter.unusedVariables false
theorem reads_ack {w : World} : Reads Tryz.prog w 86 (fun _ : Ack => True) Ack.cs :=
  Reads.map (reads_struct Tryz.underlying86 (by kernel_rfl) (by kernel_rfl) (readsL_cons (reads_int Tryz.underlying3) (readsL_cons (reads_int Tryz.underlying3) (readsL_cons (reads_int Tryz.underlying3) (readsL_cons (reads_int Tryz.underlying3) (readsL_cons (reads_int Tryz.underlying3) (readsL_cons (reads_int Tryz.underlying3) readsL_nil))))))) (fun x => Ack.mk x.1 x.2.1 x.2.2.1 x.2.2.2.1 x.2.2.2.2.1 x.2.2.2.2.2.1) (fun _ => rfl) (fun _ _ => trivial)
theorem reads_acks {w : World} : Reads Tryz.prog w 38 (fun l : List Ack => ∀ x ∈ l, True) (fun l => [.sl 6 (l.map Ack.cs)]) :=
  reads_slice (f := Ack.cs) Tryz.underlying38 (by kernel_rfl) (fun _ => rfl) reads_ack
theorem reads_ent {w : World} : Reads Tryz.prog w 40 (fun _ : Ent => True) Ent.cs :=
  Reads.map (reads_struct Tryz.underlying40 (by kernel_rfl) (by kernel_rfl) (readsL_cons (reads_int Tryz.underlying3) (readsL_cons (reads_int Tryz.underlying3) (readsL_cons (reads_int Tryz.underlying3) (readsL_cons (reads_int Tryz.underlying3) (readsL_cons (reads_int Tryz.underlying3) (readsL_cons (reads_int Tryz.underlying3) (readsL_cons (reads_int Tryz.underlying3) (readsL_cons (reads_int Tryz.underlying3) (readsL_cons (reads_string Tryz.underlying9) (readsL_cons reads_acks readsL_nil))))))))))) (fun x => Ent.mk x.1 x.2.1 x.2.2.1 x.2.2.2.1 x.2.2.2.2.1 x.2.2.2.2.2.1 x.2.2.2.2.2.2.1 x.2.2.2.2.2.2.2.1 x.2.2.2.2.2.2.2.2.1 x.2.2.2.2.2.2.2.2.2.1) (fun _ => rfl) (fun _ _ => trivial)
end Go.Proofs.YtbjepdfnmbdplaaGreat
end
section
namespace Go.Proofs.YtbjepdfnmbdplaaGreat
open Go.RowKit
set_option linter.unusedSimpArgs false
set_option linter.unusedVariables false
set_option linter.unusedSectionVars false
theorem reads_ints {w : World} : Reads Tryz.prog w 26 (fun l : List Int => ∀ x ∈ l, okI x) (fun l => [PV.ints l]) :=
  reads_slice (f := ics) Tryz.underlying26 (by kernel_rfl) (fun _ => rfl) (reads_int Tryz.underlying3)
theorem reads_tab {w : World} : Reads Tryz.prog w 25 (fun l : List (List Int) => ∀ x ∈ l, ∀ y ∈ x, okI y) (fun l => [PV.tab l]) :=
  reads_slice (f := rcs) Tryz.underlying25 (by kernel_rfl) (fun _ => rfl) reads_ints
theorem reads_att {w : World} : Reads Tryz.prog w 29 (fun _ : Att => True) Att.cs :=
  Reads.map (reads_struct Tryz.underlying29 (by kernel_rfl) (by kernel_rfl) (readsL_cons (reads_int Tryz.underlying3) (readsL_cons (reads_int Tryz.underlying3) readsL_nil))) (fun x => Att.mk x.1 x.2.1) (fun _ => rfl) (fun _ _ => trivial)
theorem reads_atts {w : World} : Reads Tryz.prog w 23 (fun l : List Att => ∀ x ∈ l, True) (fun l => [.sl 2 (l.map Att.cs)]) :=
  reads_slice (sz := 2) (f := Att.cs) Tryz.underlying23 (by kernel_rfl) (fun _ => rfl) reads_att
theorem reads_rng {w : World} : Reads Tryz.prog w 195 (fun _ : Rng => True) Rng.cs :=
  Reads.map (reads_struct Tryz.underlying195 (by kernel_rfl) (by kernel_rfl) (readsL_cons (reads_int Tryz.underlying3) (readsL_cons (reads_int Tryz.underlying3) readsL_nil))) (fun x => Rng.mk x.1 x.2.1) (fun _ => rfl) (fun _ _ => trivial)
theorem reads_rngs {w : World} : Reads Tryz.prog w 79 (fun l : List Rng => ∀ x ∈ l, True) (fun l => [.sl 2 (l.map Rng.cs)]) :=
  reads_slice (sz := 2) (f := Rng.cs) Tryz.underlying79 (by kernel_rfl) (fun _ => rfl) reads_rng
theorem reads_kno {w : World} : Reads Tryz.prog w 81 (fun _ : Kno => True) Kno.cs :=
  Reads.map (reads_struct Tryz.underlying81 (by kernel_rfl) (by kernel_rfl) (readsL_cons (reads_int Tryz.underlying3) (readsL_cons reads_rngs (readsL_cons reads_atts readsL_nil)))) (fun x => Kno.mk x.1 x.2.1 x.2.2.1) (fun _ => rfl) (fun _ _ => trivial)
theorem reads_knos {w : World} : Reads Tryz.prog w 24 (fun l : List Kno => ∀ x ∈ l, True) (fun l => [.sl 3 (l.map Kno.cs)]) :=
  reads_slice (sz := 3) (f := Kno.cs) Tryz.underlying24 (by kernel_rfl) (fun _ => rfl) reads_kno
theorem reads_dons {w : World} : Reads Tryz.prog w 27 (fun l : List (List Rng) => ∀ x ∈ l, ∀ y ∈ x, True) (fun l => [.sl 1 (l.map dcs)]) :=
  reads_slice (sz := 1) (f := dcs) Tryz.underlying27 (by kernel_rfl) (fun _ => rfl) reads_rngs
theorem reads_ents {w : World} : Reads Tryz.prog w 22 (fun l : List Ent => ∀ x ∈ l, True) (fun l => [.sl 10 (l.map Ent.cs)]) :=
  reads_slice (sz := 10) (f := Ent.cs) Tryz.underlying22 (by kernel_rfl) (fun _ => rfl) reads_ent
theorem reads_itm {w : World} : Reads Tryz.prog w 286 (fun _ : Itm => True) Itm.cs :=
  Reads.map (reads_struct Tryz.underlying286 (by kernel_rfl) (by kernel_rfl) (readsL_cons (reads_int Tryz.underlying3) (readsL_cons (reads_int Tryz.underlying3) (readsL_cons (reads_int Tryz.underlying3) (readsL_cons (reads_int Tryz.underlying3) readsL_nil))))) (fun x => Itm.mk x.1 x.2.1 x.2.2.1 x.2.2.2.1) (fun _ => rfl) (fun _ _ => trivial)
theorem reads_itms {w : World} : Reads Tryz.prog w 30 (fun l : List Itm => ∀ x ∈ l, True) (fun l => [.sl 4 (l.map Itm.cs)]) :=
  reads_slice (sz := 4) (f := Itm.cs) Tryz.underlying30 (by kernel_rfl) (fun _ => rfl) reads_itm
theorem reads_ses {w : World} : Reads Tryz.prog w 288 (fun _ : Ses => True) Ses.cs :=
  Reads.map (reads_struct Tryz.underlying288 (by kernel_rfl) (by kernel_rfl) (readsL_cons (reads_int Tryz.underlying3) (readsL_cons (reads_int Tryz.underlying3) (readsL_cons (reads_string Tryz.underlying9) readsL_nil)))) (fun x => Ses.mk x.1 x.2.1 x.2.2.1) (fun _ => rfl) (fun _ _ => trivial)
theorem reads_sess {w : World} : Reads Tryz.prog w 31 (fun l : List Ses => ∀ x ∈ l, True) (fun l => [.sl 3 (l.map Ses.cs)]) :=
  reads_slice (sz := 3) (f := Ses.cs) Tryz.underlying31 (by kernel_rfl) (fun _ => rfl) reads_ses
theorem reads_store {w : World} : Reads Tryz.prog w 33 (fun _ : List Itm × List Ses => True) (fun x => [.sl 4 (x.1.map Itm.cs), .sl 3 (x.2.map Ses.cs)]) :=
  Reads.map (reads_struct Tryz.underlying33 (by kernel_rfl) (by kernel_rfl) (readsL_cons reads_itms (readsL_cons reads_sess readsL_nil))) (fun x => (x.1, x.2.1)) (fun _ => rfl) (fun _ _ => trivial)
theorem reads_rpl {w : World} : Reads Tryz.prog w 35 (fun _ : Rpl => True) Rpl.cs :=
  Reads.map (reads_struct Tryz.underlying35 (by kernel_rfl) (by kernel_rfl) (readsL_cons (reads_int Tryz.underlying3) (readsL_cons (reads_int Tryz.underlying3) (readsL_cons (reads_int Tryz.underlying3) (readsL_cons (reads_int Tryz.underlying3) (readsL_cons (reads_int Tryz.underlying3) (readsL_cons (reads_int Tryz.underlying3) (readsL_cons (reads_int Tryz.underlying3) (readsL_cons reads_ents (readsL_cons reads_atts (readsL_cons reads_knos (readsL_cons reads_tab (readsL_cons reads_ints (readsL_cons reads_dons (readsL_cons reads_att (readsL_cons (reads_int Tryz.underlying3) (readsL_cons reads_store readsL_nil))))))))))))))))) (fun x => Rpl.mk x.1 x.2.1 x.2.2.1 x.2.2.2.1 x.2.2.2.2.1 x.2.2.2.2.2.1 x.2.2.2.2.2.2.1 x.2.2.2.2.2.2.2.1 x.2.2.2.2.2.2.2.2.1 x.2.2.2.2.2.2.2.2.2.1 x.2.2.2.2.2.2.2.2.2.2.1 x.2.2.2.2.2.2.2.2.2.2.2.1 x.2.2.2.2.2.2.2.2.2.2.2.2.1 x.2.2.2.2.2.2.2.2.2.2.2.2.2.1 x.2.2.2.2.2.2.2.2.2.2.2.2.2.2.1 x.2.2.2.2.2.2.2.2.2.2.2.2.2.2.2.1.1 x.2.2.2.2.2.2.2.2.2.2.2.2.2.2.2.1.2) (fun _ => rfl) (fun _ _ => trivial)
theorem reads_msg {w : World} : Reads Tryz.prog w 37 (fun _ : Msg => True) Msg.cs :=
  Reads.map (reads_struct Tryz.underlying37 (by kernel_rfl) (by kernel_rfl) (readsL_cons (reads_int Tryz.underlying3) (readsL_cons (reads_int Tryz.underlying3) (readsL_cons (reads_int Tryz.underlying3) (readsL_cons (reads_int Tryz.underlying3) (readsL_cons (reads_int Tryz.underlying3) (readsL_cons (reads_int Tryz.underlying3) (readsL_cons (reads_int Tryz.underlying3) (readsL_cons (reads_int Tryz.underlying3) (readsL_cons (reads_string Tryz.underlying9) (readsL_cons (reads_int Tryz.underlying3) (readsL_cons (reads_int Tryz.underlying3) (readsL_cons reads_atts (readsL_cons reads_ints (readsL_cons (reads_int Tryz.underlying3) readsL_nil))))))))))))))) (fun x => Msg.mk x.1 x.2.1 x.2.2.1 x.2.2.2.1 x.2.2.2.2.1 x.2.2.2.2.2.1 x.2.2.2.2.2.2.1 x.2.2.2.2.2.2.2.1 x.2.2.2.2.2.2.2.2.1 x.2.2.2.2.2.2.2.2.2.1 x.2.2.2.2.2.2.2.2.2.2.1 x.2.2.2.2.2.2.2.2.2.2.2.1 x.2.2.2.2.2.2.2.2.2.2.2.2.1 x.2.2.2.2.2.2.2.2.2.2.2.2.2.1) (fun _ => rfl) (fun _ _ => trivial)
theorem reads_msgs {w : World} : Reads Tryz.prog w 56 (fun l : List Msg => ∀ x ∈ l, True) (fun l => [.sl 14 (l.map Msg.cs)]) :=
  reads_slice (sz := 14) (f := Msg.cs) Tryz.underlying56 (by kernel_rfl) (fun _ => rfl) reads_msg
end Go.Proofs.YtbjepdfnmbdplaaGreat
end
section
namespace Go.Proofs.YtbjepdfnmbdplaaGreat
open Go.RowKit
set_option linter.unusedSimpArgs false
set_option linter.unusedVariables false
noncomputable def hearP (r : Rpl) (m : Msg) : Rpl × List Out := if m.kind = 3 then onAcc r m else if m.kind = 4 then onAcd r m else if m.kind = 5 then onCmt r m else onRef r m
def sendB (r : Rpl) (o : Out) : Bool := decide (1 ≤ o.dest ∧ o.dest ≤ r.n ∧ o.dest ≠ r.self ∧ o.m.fr = r.self) && msgB o.m
theorem send_of {r : Rpl} {o : Out} (h : 1 ≤ o.dest ∧ o.dest ≤ r.n ∧ o.dest ≠ r.self ∧ o.m.fr = r.self) (h2 : msgB o.m = true) : sendB r o = true := by
  unfold sendB
  rw [h2, decide_eq_true h]
  rfl
theorem rep_self {r : Rpl} (h : repB r = true) : 1 ≤ r.self ∧ r.self ≤ r.n ∧ r.n ≤ 9 := by
  have := (nums_p (rep_parts h).1).1
  unfold numsP at this
  omega
theorem msg_tol {s : Int} {e : Ent} (hs : 1 ≤ s ∧ s ≤ 9) (he : entB e = true) (ht : 0 < e.t) : msgB ⟨5, s, e.id, e.t, 0, 0, 0, e.quorum, e.payload, 0, 0, [], [], 0⟩ = true := by
  obtain ⟨h1, _, _, h4, h5, h6, _⟩ := entB_iff.1 he
  have h7 := (ent_facts he).2.2.2.1
  unfold msgB inN
  simp only [show kI 5 = true from rfl, show kT 5 = true from rfl, show kL 5 = false from rfl, show kC 5 = true from rfl, show kA 5 = false from rfl, show kP 5 = false from rfl, if_true, Bool.false_eq_true, if_false, h1, Bool.true_or, Bool.and_true, Bool.true_and, and_self]
  rw [decide_eq_true hs, decide_eq_true (show 1 ≤ e.t ∧ e.t ≤ 1000000 by omega), decide_eq_true (show 1 ≤ e.quorum ∧ e.quorum ≤ 511 by omega), decide_eq_true h6]
  rfl
theorem msg_ans {s id k b : Int} (hk : k = 4 ∨ k = 8) (hs : 1 ≤ s ∧ s ≤ 9) (hi : idB id = true) (hb : 1 ≤ b ∧ b ≤ 1000000) : msgB ⟨k, s, id, 0, b, 0, 0, 0, noByte, 0, 0, [], [], 0⟩ = true := by
  unfold msgB inN
  rcases hk with rfl | rfl
  · simp only [show kI 4 = true from rfl, show kT 4 = false from rfl, show kL 4 = true from rfl, show kC 4 = false from rfl, show kA 4 = false from rfl, show kP 4 = false from rfl, if_true, Bool.false_eq_true, if_false, hi, Bool.true_or, Bool.and_true, Bool.true_and, and_self]
    rw [decide_eq_true hs, decide_eq_true hb]
    rfl
  · simp only [show kI 8 = true from rfl, show kT 8 = false from rfl, show kL 8 = true from rfl, show kC 8 = false from rfl, show kA 8 = false from rfl, show kP 8 = false from rfl, if_true, Bool.false_eq_true, if_false, hi, Bool.true_or, Bool.and_true, Bool.true_and, and_self]
    rw [decide_eq_true hs, decide_eq_true hb]
    rfl
theorem msg_facts {m : Msg} (h : msgB m = true) (hi : kI m.kind = true) : 1 ≤ m.fr ∧ idB m.id = true ∧ (kL m.kind = true → 1 ≤ m.bal ∧ m.bal ≤ 1000000) := by
  unfold msgB at h
  simp only [Bool.and_eq_true, decide_eq_true_eq] at h
  obtain ⟨_, ⟨⟨⟨⟨⟨⟨⟨⟨⟨hf, _⟩, hid⟩, _⟩, hb⟩, _⟩, _⟩, _⟩, _⟩, _⟩⟩ := h
  rw [if_pos hi] at hid
  refine ⟨hf, hid, fun hl => ?_⟩
  unfold inN at hb
  rw [if_pos hl, decide_eq_true_eq] at hb
  exact hb
theorem oth_mem {r : Rpl} {d : Int} (h : d ∈ othL r) : 1 ≤ d ∧ d ≤ r.n ∧ d ≠ r.self := by
  unfold othL at h
  rw [List.mem_filter, List.mem_map] at h
  obtain ⟨⟨i, hi, rfl⟩, h2⟩ := h
  have := List.mem_range.1 hi
  exact ⟨by omega, by omega, of_decide_eq_true h2⟩
theorem help_send {r s : Rpl} {e : Ent} {d : Int} (hn : s.n = r.n) (hs : s.self = r.self) (he : entB e = true) : ∀ o ∈ helpO s e d, sendB r o = true := by
  intro o ho
  unfold helpO at ho
  split at ho
  · rename_i h
    obtain ⟨h1, h2, h3, h4, h5⟩ := h
    rw [List.mem_singleton] at ho
    subst ho
    have hp := settB_iff.1 h1
    have ht := (ent_facts he).2.2.2.2.2.2.2.2.1.1
    have hr := rep_self h2
    exact send_of ⟨h3, by rw [← hn]; exact h4, by rw [← hs]; exact h5, hs⟩ (msg_tol ⟨hr.1, by omega⟩ he (by omega))
  · cases ho
theorem all_send {r u s : Rpl} {e : Ent} (hn : u.n = r.n) (hs : u.self = r.self) (he : entB e = true) (ht : 0 < e.t) : ∀ o ∈ allO u (tolM s e), sendB r o = true := by
  intro o ho
  unfold allO at ho
  split at ho
  · rename_i h
    rw [List.mem_map] at ho
    obtain ⟨d, hd, rfl⟩ := ho
    have h1 := oth_mem hd
    have hr := rep_self h
    exact send_of ⟨h1.1, by rw [← hn]; exact h1.2.1, by rw [← hs]; exact h1.2.2, hs⟩ (msg_tol ⟨hr.1, by omega⟩ he ht)
  · cases ho
theorem ans_send {r : Rpl} {m : Msg} {k b : Int} (hr : repB r = true) (hf : 1 ≤ m.fr ∧ m.fr ≤ r.n ∧ m.fr ≠ r.self) (hk : k = 4 ∨ k = 8) (hi : idB m.id = true) (hb : 1 ≤ b ∧ b ≤ 1000000) : ∀ o ∈ ansO r m k b, sendB r o = true := by
  intro o ho
  unfold ansO at ho
  rw [List.mem_singleton] at ho
  subst ho
  have hr := rep_self hr
  exact send_of ⟨hf.1, hf.2.1, hf.2.2, rfl⟩ (msg_ans hk ⟨hr.1, by omega⟩ hi hb)
theorem onAcc_keeps (r : Rpl) (m : Msg) : Stays r (onAcc r m).1 ∧ ∀ o ∈ (onAcc r m).2, sendB r o = true := by
  unfold onAcc
  split
  · rename_i h
    obtain ⟨_, hk, hh, hl⟩ := h
    obtain ⟨hr, hm, h1, h2, h3⟩ := hears_rep hh
    obtain ⟨m1, m2, m3⟩ := msg_facts hm (by rw [hk]; decide)
    have mb := m3 (by rw [hk]; decide)
    have he := lrn_ent hl
    have st := lrn_stays r m.id m.quorum m.payload
    dsimp only
    split
    · exact ⟨st, help_send st.n st.self he⟩
    · split
      · refine ⟨st, ans_send hr ⟨m1, h1, h2⟩ (.inr rfl) m2 ?_⟩
        have := ent_facts he
        omega
      · split
        · exact ⟨st.trans (bmp_stays _ _ _), ans_send hr ⟨m1, h1, h2⟩ (.inl rfl) m2 mb⟩
        · exact ⟨.refl r, by simp⟩
  · exact ⟨.refl r, by simp⟩
theorem acksTo_of {l : List Ack} (h : acksB l = true) : acksTo l l.length = true ∧ l.length ≤ 27 := by
  unfold acksB at h
  rw [Bool.and_eq_true, decide_eq_true_iff] at h
  exact h
theorem acksTo_app (l m : List Ack) (n : Nat) (h : n ≤ l.length) : acksTo (l ++ m) n = acksTo l n := by
  induction n with
  | zero => rfl
  | succ n ih =>
    rw [acksTo_succ _ _ (by rw [List.length_append]; omega), acksTo_succ _ _ (by omega), ih (by omega), List.getElem_append_left (by omega), List.take_append_of_le_length (by omega)]
theorem ack_ent {e : Ent} {a : Ack} (h : ackB e a = true) : entB (e.ack a) = true := by
  obtain ⟨h1, h2, h3, h4, h5⟩ := ackB_iff.1 h
  obtain ⟨k1, k2, k3, k4, k5, k6, k7, k8, k9, k10⟩ := entB_iff.1 h1
  refine entB_iff.2 ⟨k1, k2, k3, k4, k5, k6, k7, k8, ?_, .inl h2⟩
  obtain ⟨m1, m2⟩ := acksTo_of k9
  show acksB (e.acks ++ [a]) = true
  unfold acksB
  rw [Bool.and_eq_true, decide_eq_true_iff]
  constructor
  · rw [List.length_append, List.length_singleton, acksTo_succ _ _ (by simp), acksTo_app _ _ _ (Nat.le_refl _), m1]
    simp [h3]
    exact h5
  · simp
    omega
theorem ackR_facts {e : Ent} {a : Ack} (h : entB e = true) : entB (ackR e a) = true ∧ (ackR e a).t = e.t ∧ (ackR e a).abal = e.abal ∧ (ackR e a).id = e.id ∧ (ackR e a).payload = e.payload ∧ (ackR e a).phase = e.phase := by
  unfold ackR
  split
  · rename_i ha
    exact ⟨ack_ent ha, rfl, rfl, rfl, rfl, rfl⟩
  · exact ⟨h, rfl, rfl, rfl, rfl, rfl⟩
theorem onAcd_keeps (r : Rpl) (m : Msg) : Stays r (onAcd r m).1 ∧ ∀ o ∈ (onAcd r m).2, sendB r o = true := by
  unfold onAcd
  split
  · rename_i h
    obtain ⟨hk, hh, _, hf⟩ := h
    obtain ⟨hr, hm, h1, h2, h3⟩ := hears_rep hh
    have he := find_ent hr hf
    obtain ⟨m1, m2, m3⟩ := msg_facts hm (by rw [hk]; decide)
    have mb := m3 (by rw [hk]; decide)
    dsimp only
    split
    · rename_i hc
      obtain ⟨c1, c2, c3, c4, c5⟩ := hc
      obtain ⟨a1, a2, a3, _⟩ := ackR_facts (a := accA m) he
      have ht := (ent_facts he).2.2.2.2.2.2.2.2.1.1
      have sp := rput_stays r (ackR (findT r.entries m.id) (accA m))
      split
      · split
        · have sc := sp.trans (cmt_stays (rputR r (ackR (findT r.entries m.id) (accA m))) (ackR (findT r.entries m.id) (accA m)) (ackR (findT r.entries m.id) (accA m)).t)
          exact ⟨sc, all_send sc.n sc.self a1 (by rw [a2]; omega)⟩
        · exact ⟨.refl r, by simp⟩
      · exact ⟨sp, by simp⟩
    · exact ⟨.refl r, by simp⟩
  · exact ⟨.refl r, by simp⟩
theorem onCmt_keeps (r : Rpl) (m : Msg) : Stays r (onCmt r m).1 ∧ ∀ o ∈ (onCmt r m).2, sendB r o = true := by
  unfold onCmt
  split
  · have st := lrn_stays r m.id m.quorum m.payload
    dsimp only
    split
    · exact ⟨st, by simp⟩
    · split
      · exact ⟨st.trans (cmt_stays _ _ _), by simp⟩
      · exact ⟨.refl r, by simp⟩
  · exact ⟨.refl r, by simp⟩
theorem onRef_keeps (r : Rpl) (m : Msg) : Stays r (onRef r m).1 ∧ ∀ o ∈ (onRef r m).2, sendB r o = true := by
  unfold onRef
  split
  · exact ⟨rput_stays _ _, by simp⟩
  · exact ⟨.refl r, by simp⟩
theorem hear_keeps (r : Rpl) (m : Msg) : Stays r (hearP r m).1 ∧ ∀ o ∈ (hearP r m).2, sendB r o = true := by
  unfold hearP
  split
  · exact onAcc_keeps r m
  · split
    · exact onAcd_keeps r m
    · split
      · exact onCmt_keeps r m
      · exact onRef_keeps r m
end Go.Proofs.YtbjepdfnmbdplaaGreat
end
