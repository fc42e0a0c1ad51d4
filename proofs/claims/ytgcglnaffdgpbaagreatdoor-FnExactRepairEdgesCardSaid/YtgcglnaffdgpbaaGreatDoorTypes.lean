/- The translation's types, as far as the conditions ask. -/
import Derived.Test.YtgcglnaffdgpbaaGreatDoorRuleG
import Derived.Test.YtgcglnaffdgpbaaGreatDoorProg
section
/- The types of the translation, as far as the conditions ask. -/
namespace Go.Proofs
open Go.AX
theorem mixed : Tryz.prog.follows .mixedOrders = true := by kernel_rfl
@[go_sem] theorem ti1 : TI Tryz.prog 1 = some ⟨.func, 1, 8, [.nilFunc]⟩ := by kernel_rfl
@[go_sem] theorem ti2 : TI Tryz.prog 2 = some ⟨.int .i64, 1, 8, [.int .i64 0]⟩ := by kernel_rfl
@[go_sem] theorem ti3 : TI Tryz.prog 3 = some ⟨.int .i64, 1, 8, [.int .i64 0]⟩ := by kernel_rfl
@[go_sem] theorem ti4 : TI Tryz.prog 4 = some ⟨.bool, 1, 1, [.bool false]⟩ := by kernel_rfl
@[go_sem] theorem ti5 : TI Tryz.prog 5 = some ⟨.int .u8, 1, 1, [.int .u8 0]⟩ := by kernel_rfl
@[go_sem] theorem ti6 : TI Tryz.prog 6 = some ⟨.int .u8, 1, 1, [.int .u8 0]⟩ := by kernel_rfl
@[go_sem] theorem ti7 : TI Tryz.prog 7 = some ⟨.strct [(0, 2), (1, 3), (2, 4), (3, 6)], 4, 24, [.int .i64 0, .int .i64 0, .bool false, .int .u8 0]⟩ := by kernel_rfl
@[go_sem] theorem ti8 : TI Tryz.prog 8 = some ⟨.strct [(0, 2), (1, 3), (2, 4), (3, 6)], 4, 24, [.int .i64 0, .int .i64 0, .bool false, .int .u8 0]⟩ := by kernel_rfl
@[go_sem] theorem ti9 : TI Tryz.prog 9 = some ⟨.str, 1, 16, [.string ⟨#[]⟩]⟩ := by kernel_rfl
@[go_sem] theorem ti10 : TI Tryz.prog 10 = some ⟨.str, 1, 16, [.string ⟨#[]⟩]⟩ := by kernel_rfl
@[go_sem] theorem ti11 : TI Tryz.prog 11 = some ⟨.str, 1, 16, [.string ⟨#[]⟩]⟩ := by kernel_rfl
@[go_sem] theorem ti12 : TI Tryz.prog 12 = some ⟨.int .u64, 1, 8, [.int .u64 0]⟩ := by kernel_rfl
@[go_sem] theorem ti13 : TI Tryz.prog 13 = some ⟨.strct [(0, 9), (1, 12)], 2, 24, [.string ⟨#[]⟩, .int .u64 0]⟩ := by kernel_rfl
@[go_sem] theorem ti14 : TI Tryz.prog 14 = some ⟨.strct [(0, 9), (1, 12)], 2, 24, [.string ⟨#[]⟩, .int .u64 0]⟩ := by kernel_rfl
@[go_sem] theorem ti15 : TI Tryz.prog 15 = some ⟨.ptr 146, 1, 8, [.pointer none]⟩ := by kernel_rfl
@[go_sem] theorem ti16 : TI Tryz.prog 16 = some ⟨.ptr 149, 1, 8, [.pointer none]⟩ := by kernel_rfl
@[go_sem] theorem ti17 : TI Tryz.prog 17 = some ⟨.ptr 157, 1, 8, [.pointer none]⟩ := by kernel_rfl
@[go_sem] theorem ti18 : TI Tryz.prog 18 = some ⟨.strct [(0, 17)], 1, 8, [.pointer none]⟩ := by kernel_rfl
@[go_sem] theorem ti19 : TI Tryz.prog 19 = some ⟨.strct [(0, 17)], 1, 8, [.pointer none]⟩ := by kernel_rfl
@[go_sem] theorem ti20 : TI Tryz.prog 20 = some ⟨.iface, 1, 16, [.nilIface]⟩ := by kernel_rfl
@[go_sem] theorem ti21 : TI Tryz.prog 21 = some ⟨.int .i32, 1, 4, [.int .i32 0]⟩ := by kernel_rfl
@[go_sem] theorem ti22 : TI Tryz.prog 22 = some ⟨.slice 45, 1, 24, [.slice none 0 0]⟩ := by kernel_rfl
@[go_sem] theorem ti23 : TI Tryz.prog 23 = some ⟨.slice 69, 1, 24, [.slice none 0 0]⟩ := by kernel_rfl
@[go_sem] theorem ti24 : TI Tryz.prog 24 = some ⟨.slice 4, 1, 24, [.slice none 0 0]⟩ := by kernel_rfl
@[go_sem] theorem ti25 : TI Tryz.prog 25 = some ⟨.strct [(0, 3), (1, 23), (2, 24)], 3, 56, [.int .i64 0, .slice none 0 0, .slice none 0 0]⟩ := by kernel_rfl
@[go_sem] theorem ti26 : TI Tryz.prog 26 = some ⟨.strct [(0, 3), (1, 23), (2, 24)], 3, 56, [.int .i64 0, .slice none 0 0, .slice none 0 0]⟩ := by kernel_rfl
@[go_sem] theorem ti27 : TI Tryz.prog 27 = some ⟨.func, 1, 8, [.nilFunc]⟩ := by kernel_rfl
@[go_sem] theorem ti28 : TI Tryz.prog 28 = some ⟨.func, 1, 8, [.nilFunc]⟩ := by kernel_rfl
@[go_sem] theorem ti29 : TI Tryz.prog 29 = some ⟨.slice 55, 1, 24, [.slice none 0 0]⟩ := by kernel_rfl
@[go_sem] theorem ti30 : TI Tryz.prog 30 = some ⟨.func, 1, 8, [.nilFunc]⟩ := by kernel_rfl
@[go_sem] theorem ti31 : TI Tryz.prog 31 = some ⟨.slice 51, 1, 24, [.slice none 0 0]⟩ := by kernel_rfl
@[go_sem] theorem ti32 : TI Tryz.prog 32 = some ⟨.func, 1, 8, [.nilFunc]⟩ := by kernel_rfl
@[go_sem] theorem ti33 : TI Tryz.prog 33 = some ⟨.strct [(0, 3), (1, 23), (2, 24)], 3, 56, [.int .i64 0, .slice none 0 0, .slice none 0 0]⟩ := by kernel_rfl
@[go_sem] theorem ti34 : TI Tryz.prog 34 = some ⟨.func, 1, 8, [.nilFunc]⟩ := by kernel_rfl
@[go_sem] theorem ti35 : TI Tryz.prog 35 = some ⟨.func, 1, 8, [.nilFunc]⟩ := by kernel_rfl
@[go_sem] theorem ti36 : TI Tryz.prog 36 = some ⟨.func, 1, 8, [.nilFunc]⟩ := by kernel_rfl
@[go_sem] theorem ti37 : TI Tryz.prog 37 = some ⟨.func, 1, 8, [.nilFunc]⟩ := by kernel_rfl
@[go_sem] theorem ti38 : TI Tryz.prog 38 = some ⟨.func, 1, 8, [.nilFunc]⟩ := by kernel_rfl
@[go_sem] theorem ti39 : TI Tryz.prog 39 = some ⟨.func, 1, 8, [.nilFunc]⟩ := by kernel_rfl
@[go_sem] theorem ti40 : TI Tryz.prog 40 = some ⟨.func, 1, 8, [.nilFunc]⟩ := by kernel_rfl
@[go_sem] theorem ti41 : TI Tryz.prog 41 = some ⟨.func, 1, 8, [.nilFunc]⟩ := by kernel_rfl
@[go_sem] theorem ti42 : TI Tryz.prog 42 = some ⟨.func, 1, 8, [.nilFunc]⟩ := by kernel_rfl
@[go_sem] theorem ti43 : TI Tryz.prog 43 = some ⟨.slice 92, 1, 24, [.slice none 0 0]⟩ := by kernel_rfl
@[go_sem] theorem ti44 : TI Tryz.prog 44 = some ⟨.strct [(0, 3), (1, 3), (2, 43)], 3, 40, [.int .i64 0, .int .i64 0, .slice none 0 0]⟩ := by kernel_rfl
@[go_sem] theorem ti45 : TI Tryz.prog 45 = some ⟨.strct [(0, 3), (1, 3), (2, 43)], 3, 40, [.int .i64 0, .int .i64 0, .slice none 0 0]⟩ := by kernel_rfl
@[go_sem] theorem ti46 : TI Tryz.prog 46 = some ⟨.func, 1, 8, [.nilFunc]⟩ := by kernel_rfl
@[go_sem] theorem ti47 : TI Tryz.prog 47 = some ⟨.func, 1, 8, [.nilFunc]⟩ := by kernel_rfl
@[go_sem] theorem ti48 : TI Tryz.prog 48 = some ⟨.func, 1, 8, [.nilFunc]⟩ := by kernel_rfl
@[go_sem] theorem ti49 : TI Tryz.prog 49 = some ⟨.func, 1, 8, [.nilFunc]⟩ := by kernel_rfl
@[go_sem] theorem ti50 : TI Tryz.prog 50 = some ⟨.strct [(0, 3), (1, 3), (2, 29)], 3, 40, [.int .i64 0, .int .i64 0, .slice none 0 0]⟩ := by kernel_rfl
@[go_sem] theorem ti51 : TI Tryz.prog 51 = some ⟨.strct [(0, 3), (1, 3), (2, 29)], 3, 40, [.int .i64 0, .int .i64 0, .slice none 0 0]⟩ := by kernel_rfl
@[go_sem] theorem ti52 : TI Tryz.prog 52 = some ⟨.func, 1, 8, [.nilFunc]⟩ := by kernel_rfl
@[go_sem] theorem ti53 : TI Tryz.prog 53 = some ⟨.func, 1, 8, [.nilFunc]⟩ := by kernel_rfl
@[go_sem] theorem ti54 : TI Tryz.prog 54 = some ⟨.strct [(0, 3), (1, 3), (2, 3)], 3, 24, [.int .i64 0, .int .i64 0, .int .i64 0]⟩ := by kernel_rfl
@[go_sem] theorem ti55 : TI Tryz.prog 55 = some ⟨.strct [(0, 3), (1, 3), (2, 3)], 3, 24, [.int .i64 0, .int .i64 0, .int .i64 0]⟩ := by kernel_rfl
@[go_sem] theorem ti56 : TI Tryz.prog 56 = some ⟨.func, 1, 8, [.nilFunc]⟩ := by kernel_rfl
@[go_sem] theorem ti57 : TI Tryz.prog 57 = some ⟨.func, 1, 8, [.nilFunc]⟩ := by kernel_rfl
@[go_sem] theorem ti58 : TI Tryz.prog 58 = some ⟨.func, 1, 8, [.nilFunc]⟩ := by kernel_rfl
@[go_sem] theorem ti59 : TI Tryz.prog 59 = some ⟨.func, 1, 8, [.nilFunc]⟩ := by kernel_rfl
@[go_sem] theorem ti60 : TI Tryz.prog 60 = some ⟨.func, 1, 8, [.nilFunc]⟩ := by kernel_rfl
@[go_sem] theorem ti62 : TI Tryz.prog 62 = some ⟨.func, 1, 8, [.nilFunc]⟩ := by kernel_rfl
@[go_sem] theorem ti63 : TI Tryz.prog 63 = some ⟨.func, 1, 8, [.nilFunc]⟩ := by kernel_rfl
@[go_sem] theorem ti64 : TI Tryz.prog 64 = some ⟨.func, 1, 8, [.nilFunc]⟩ := by kernel_rfl
@[go_sem] theorem ti65 : TI Tryz.prog 65 = some ⟨.func, 1, 8, [.nilFunc]⟩ := by kernel_rfl
@[go_sem] theorem ti66 : TI Tryz.prog 66 = some ⟨.func, 1, 8, [.nilFunc]⟩ := by kernel_rfl
@[go_sem] theorem ti67 : TI Tryz.prog 67 = some ⟨.func, 1, 8, [.nilFunc]⟩ := by kernel_rfl
@[go_sem] theorem ti68 : TI Tryz.prog 68 = some ⟨.func, 1, 8, [.nilFunc]⟩ := by kernel_rfl
@[go_sem] theorem ti69 : TI Tryz.prog 69 = some ⟨.slice 3, 1, 24, [.slice none 0 0]⟩ := by kernel_rfl
@[go_sem] theorem ti70 : TI Tryz.prog 70 = some ⟨.func, 1, 8, [.nilFunc]⟩ := by kernel_rfl
@[go_sem] theorem ti71 : TI Tryz.prog 71 = some ⟨.func, 1, 8, [.nilFunc]⟩ := by kernel_rfl
@[go_sem] theorem ti72 : TI Tryz.prog 72 = some ⟨.func, 1, 8, [.nilFunc]⟩ := by kernel_rfl
@[go_sem] theorem ti73 : TI Tryz.prog 73 = some ⟨.func, 1, 8, [.nilFunc]⟩ := by kernel_rfl
@[go_sem] theorem ti75 : TI Tryz.prog 75 = some ⟨.func, 1, 8, [.nilFunc]⟩ := by kernel_rfl
@[go_sem] theorem ti76 : TI Tryz.prog 76 = some ⟨.func, 1, 8, [.nilFunc]⟩ := by kernel_rfl
@[go_sem] theorem ti77 : TI Tryz.prog 77 = some ⟨.func, 1, 8, [.nilFunc]⟩ := by kernel_rfl
@[go_sem] theorem ti78 : TI Tryz.prog 78 = some ⟨.func, 1, 8, [.nilFunc]⟩ := by kernel_rfl
@[go_sem] theorem ti80 : TI Tryz.prog 80 = some ⟨.func, 1, 8, [.nilFunc]⟩ := by kernel_rfl
@[go_sem] theorem ti81 : TI Tryz.prog 81 = some ⟨.func, 1, 8, [.nilFunc]⟩ := by kernel_rfl
@[go_sem] theorem ti82 : TI Tryz.prog 82 = some ⟨.func, 1, 8, [.nilFunc]⟩ := by kernel_rfl
@[go_sem] theorem ti83 : TI Tryz.prog 83 = some ⟨.func, 1, 8, [.nilFunc]⟩ := by kernel_rfl
@[go_sem] theorem ti84 : TI Tryz.prog 84 = some ⟨.func, 1, 8, [.nilFunc]⟩ := by kernel_rfl
@[go_sem] theorem ti85 : TI Tryz.prog 85 = some ⟨.func, 1, 8, [.nilFunc]⟩ := by kernel_rfl
@[go_sem] theorem ti86 : TI Tryz.prog 86 = some ⟨.func, 1, 8, [.nilFunc]⟩ := by kernel_rfl
@[go_sem] theorem ti87 : TI Tryz.prog 87 = some ⟨.func, 1, 8, [.nilFunc]⟩ := by kernel_rfl
@[go_sem] theorem ti88 : TI Tryz.prog 88 = some ⟨.slice 33, 1, 24, [.slice none 0 0]⟩ := by kernel_rfl
@[go_sem] theorem ti89 : TI Tryz.prog 89 = some ⟨.strct [(0, 31), (1, 88), (2, 69), (3, 3), (4, 3), (5, 3)], 6, 96, [.slice none 0 0, .slice none 0 0, .slice none 0 0, .int .i64 0, .int .i64 0, .int .i64 0]⟩ := by kernel_rfl
@[go_sem] theorem ti90 : TI Tryz.prog 90 = some ⟨.strct [(0, 31), (1, 88), (2, 69), (3, 3), (4, 3), (5, 3)], 6, 96, [.slice none 0 0, .slice none 0 0, .slice none 0 0, .int .i64 0, .int .i64 0, .int .i64 0]⟩ := by kernel_rfl
@[go_sem] theorem ti91 : TI Tryz.prog 91 = some ⟨.func, 1, 8, [.nilFunc]⟩ := by kernel_rfl
@[go_sem] theorem ti92 : TI Tryz.prog 92 = some ⟨.strct [(0, 3), (1, 3), (2, 3)], 3, 24, [.int .i64 0, .int .i64 0, .int .i64 0]⟩ := by kernel_rfl
@[go_sem] theorem ti93 : TI Tryz.prog 93 = some ⟨.func, 1, 8, [.nilFunc]⟩ := by kernel_rfl
@[go_sem] theorem ti94 : TI Tryz.prog 94 = some ⟨.func, 1, 8, [.nilFunc]⟩ := by kernel_rfl
@[go_sem] theorem ti95 : TI Tryz.prog 95 = some ⟨.int .u64, 1, 8, [.int .u64 0]⟩ := by kernel_rfl
@[go_sem] theorem ti96 : TI Tryz.prog 96 = some ⟨.func, 1, 8, [.nilFunc]⟩ := by kernel_rfl
@[go_sem] theorem ti97 : TI Tryz.prog 97 = some ⟨.func, 1, 8, [.nilFunc]⟩ := by kernel_rfl
@[go_sem] theorem ti98 : TI Tryz.prog 98 = some ⟨.func, 1, 8, [.nilFunc]⟩ := by kernel_rfl
@[go_sem] theorem ti99 : TI Tryz.prog 99 = some ⟨.func, 1, 8, [.nilFunc]⟩ := by kernel_rfl
@[go_sem] theorem ti100 : TI Tryz.prog 100 = some ⟨.slice 23, 1, 24, [.slice none 0 0]⟩ := by kernel_rfl
@[go_sem] theorem ti101 : TI Tryz.prog 101 = some ⟨.func, 1, 8, [.nilFunc]⟩ := by kernel_rfl
@[go_sem] theorem ti102 : TI Tryz.prog 102 = some ⟨.func, 1, 8, [.nilFunc]⟩ := by kernel_rfl
@[go_sem] theorem ti103 : TI Tryz.prog 103 = some ⟨.func, 1, 8, [.nilFunc]⟩ := by kernel_rfl
@[go_sem] theorem ti104 : TI Tryz.prog 104 = some ⟨.func, 1, 8, [.nilFunc]⟩ := by kernel_rfl
@[go_sem] theorem ti105 : TI Tryz.prog 105 = some ⟨.func, 1, 8, [.nilFunc]⟩ := by kernel_rfl
@[go_sem] theorem ti106 : TI Tryz.prog 106 = some ⟨.func, 1, 8, [.nilFunc]⟩ := by kernel_rfl
@[go_sem] theorem ti107 : TI Tryz.prog 107 = some ⟨.func, 1, 8, [.nilFunc]⟩ := by kernel_rfl
@[go_sem] theorem ti108 : TI Tryz.prog 108 = some ⟨.ptr 33, 1, 8, [.pointer none]⟩ := by kernel_rfl
@[go_sem] theorem ti109 : TI Tryz.prog 109 = some ⟨.slice 124, 1, 24, [.slice none 0 0]⟩ := by kernel_rfl
@[go_sem] theorem ti110 : TI Tryz.prog 110 = some ⟨.strct [(0, 31), (1, 109)], 2, 48, [.slice none 0 0, .slice none 0 0]⟩ := by kernel_rfl
@[go_sem] theorem ti111 : TI Tryz.prog 111 = some ⟨.strct [(0, 31), (1, 109)], 2, 48, [.slice none 0 0, .slice none 0 0]⟩ := by kernel_rfl
@[go_sem] theorem ti112 : TI Tryz.prog 112 = some ⟨.func, 1, 8, [.nilFunc]⟩ := by kernel_rfl
@[go_sem] theorem ti113 : TI Tryz.prog 113 = some ⟨.slice 115, 1, 24, [.slice none 0 0]⟩ := by kernel_rfl
@[go_sem] theorem ti114 : TI Tryz.prog 114 = some ⟨.func, 1, 8, [.nilFunc]⟩ := by kernel_rfl
@[go_sem] theorem ti115 : TI Tryz.prog 115 = some ⟨.arr 6 3, 6, 48, [.int .i64 0, .int .i64 0, .int .i64 0, .int .i64 0, .int .i64 0, .int .i64 0]⟩ := by kernel_rfl
@[go_sem] theorem ti116 : TI Tryz.prog 116 = some ⟨.func, 1, 8, [.nilFunc]⟩ := by kernel_rfl
@[go_sem] theorem ti117 : TI Tryz.prog 117 = some ⟨.func, 1, 8, [.nilFunc]⟩ := by kernel_rfl
@[go_sem] theorem ti118 : TI Tryz.prog 118 = some ⟨.func, 1, 8, [.nilFunc]⟩ := by kernel_rfl
@[go_sem] theorem ti119 : TI Tryz.prog 119 = some ⟨.func, 1, 8, [.nilFunc]⟩ := by kernel_rfl
@[go_sem] theorem ti120 : TI Tryz.prog 120 = some ⟨.func, 1, 8, [.nilFunc]⟩ := by kernel_rfl
@[go_sem] theorem ti121 : TI Tryz.prog 121 = some ⟨.func, 1, 8, [.nilFunc]⟩ := by kernel_rfl
@[go_sem] theorem ti122 : TI Tryz.prog 122 = some ⟨.func, 1, 8, [.nilFunc]⟩ := by kernel_rfl
@[go_sem] theorem ti123 : TI Tryz.prog 123 = some ⟨.slice 5, 1, 24, [.slice none 0 0]⟩ := by kernel_rfl
@[go_sem] theorem ti124 : TI Tryz.prog 124 = some ⟨.ptr 133, 1, 8, [.pointer none]⟩ := by kernel_rfl
@[go_sem] theorem ti125 : TI Tryz.prog 125 = some ⟨.func, 1, 8, [.nilFunc]⟩ := by kernel_rfl
@[go_sem] theorem ti126 : TI Tryz.prog 126 = some ⟨.slice 128, 1, 24, [.slice none 0 0]⟩ := by kernel_rfl
@[go_sem] theorem ti127 : TI Tryz.prog 127 = some ⟨.strct [(0, 3), (1, 3), (2, 69)], 3, 40, [.int .i64 0, .int .i64 0, .slice none 0 0]⟩ := by kernel_rfl
@[go_sem] theorem ti128 : TI Tryz.prog 128 = some ⟨.strct [(0, 3), (1, 3), (2, 69)], 3, 40, [.int .i64 0, .int .i64 0, .slice none 0 0]⟩ := by kernel_rfl
@[go_sem] theorem ti129 : TI Tryz.prog 129 = some ⟨.func, 1, 8, [.nilFunc]⟩ := by kernel_rfl
@[go_sem] theorem ti130 : TI Tryz.prog 130 = some ⟨.func, 1, 8, [.nilFunc]⟩ := by kernel_rfl
@[go_sem] theorem ti131 : TI Tryz.prog 131 = some ⟨.func, 1, 8, [.nilFunc]⟩ := by kernel_rfl
@[go_sem] theorem ti132 : TI Tryz.prog 132 = some ⟨.arr 16 115, 96, 768, List.replicate 96 (.int .i64 0)⟩ := by kernel_rfl
@[go_sem] theorem ti133 : TI Tryz.prog 133 = some ⟨.arr 16 115, 96, 768, List.replicate 96 (.int .i64 0)⟩ := by kernel_rfl
@[go_sem] theorem ti134 : TI Tryz.prog 134 = some ⟨.func, 1, 8, [.nilFunc]⟩ := by kernel_rfl
@[go_sem] theorem ti135 : TI Tryz.prog 135 = some ⟨.func, 1, 8, [.nilFunc]⟩ := by kernel_rfl
@[go_sem] theorem ti136 : TI Tryz.prog 136 = some ⟨.func, 1, 8, [.nilFunc]⟩ := by kernel_rfl
@[go_sem] theorem ti137 : TI Tryz.prog 137 = some ⟨.func, 1, 8, [.nilFunc]⟩ := by kernel_rfl
@[go_sem] theorem ti138 : TI Tryz.prog 138 = some ⟨.func, 1, 8, [.nilFunc]⟩ := by kernel_rfl
@[go_sem] theorem ti139 : TI Tryz.prog 139 = some ⟨.int .u32, 1, 4, [.int .u32 0]⟩ := by kernel_rfl
@[go_sem] theorem ti140 : TI Tryz.prog 140 = some ⟨.func, 1, 8, [.nilFunc]⟩ := by kernel_rfl
@[go_sem] theorem ti141 : TI Tryz.prog 141 = some ⟨.int .u64, 1, 8, [.int .u64 0]⟩ := by kernel_rfl
@[go_sem] theorem ti142 : TI Tryz.prog 142 = some ⟨.arr 32 5, 32, 32, List.replicate 32 (.int .u8 0)⟩ := by kernel_rfl
@[go_sem] theorem ti143 : TI Tryz.prog 143 = some ⟨.arr 64 5, 64, 64, List.replicate 64 (.int .u8 0)⟩ := by kernel_rfl
@[go_sem] theorem ti144 : TI Tryz.prog 144 = some ⟨.func, 1, 8, [.nilFunc]⟩ := by kernel_rfl
@[go_sem] theorem ti145 : TI Tryz.prog 145 = some ⟨.strct [(0, 17), (1, 17), (2, 17), (3, 9)], 4, 40, [.pointer none, .pointer none, .pointer none, .string ⟨#[]⟩]⟩ := by kernel_rfl
@[go_sem] theorem ti146 : TI Tryz.prog 146 = some ⟨.strct [(0, 17), (1, 17), (2, 17), (3, 9)], 4, 40, [.pointer none, .pointer none, .pointer none, .string ⟨#[]⟩]⟩ := by kernel_rfl
@[go_sem] theorem ti147 : TI Tryz.prog 147 = some ⟨.arr 0 16, 0, 0, []⟩ := by kernel_rfl
@[go_sem] theorem ti148 : TI Tryz.prog 148 = some ⟨.strct [(0, 147)], 0, 0, []⟩ := by kernel_rfl
@[go_sem] theorem ti149 : TI Tryz.prog 149 = some ⟨.strct [(0, 147)], 0, 0, []⟩ := by kernel_rfl
@[go_sem] theorem ti150 : TI Tryz.prog 150 = some ⟨.int .u8, 1, 1, [.int .u8 0]⟩ := by kernel_rfl
@[go_sem] theorem ti151 : TI Tryz.prog 151 = some ⟨.int .u8, 1, 1, [.int .u8 0]⟩ := by kernel_rfl
@[go_sem] theorem ti152 : TI Tryz.prog 152 = some ⟨.func, 1, 8, [.nilFunc]⟩ := by kernel_rfl
@[go_sem] theorem ti153 : TI Tryz.prog 153 = some ⟨.ptr 5, 1, 8, [.pointer none]⟩ := by kernel_rfl
@[go_sem] theorem ti154 : TI Tryz.prog 154 = some ⟨.int .i32, 1, 4, [.int .i32 0]⟩ := by kernel_rfl
@[go_sem] theorem ti155 : TI Tryz.prog 155 = some ⟨.int .i32, 1, 4, [.int .i32 0]⟩ := by kernel_rfl
@[go_sem] theorem ti156 : TI Tryz.prog 156 = some ⟨.strct [(0, 12), (1, 12), (2, 139), (3, 150), (4, 5), (5, 5), (6, 151), (7, 152), (8, 153), (9, 154), (10, 155)], 11, 48, [.int .u64 0, .int .u64 0, .int .u32 0, .int .u8 0, .int .u8 0, .int .u8 0, .int .u8 0, .nilFunc, .pointer none, .int .i32 0, .int .i32 0]⟩ := by kernel_rfl
@[go_sem] theorem ti157 : TI Tryz.prog 157 = some ⟨.strct [(0, 12), (1, 12), (2, 139), (3, 150), (4, 5), (5, 5), (6, 151), (7, 152), (8, 153), (9, 154), (10, 155)], 11, 48, [.int .u64 0, .int .u64 0, .int .u32 0, .int .u8 0, .int .u8 0, .int .u8 0, .int .u8 0, .nilFunc, .pointer none, .int .i32 0, .int .i32 0]⟩ := by kernel_rfl
end Go.Proofs
end
