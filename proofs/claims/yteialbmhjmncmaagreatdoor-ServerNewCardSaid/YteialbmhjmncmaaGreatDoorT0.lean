/- The seat's tables, row by row. -/
import Derived.Test.YteialbmhjmncmaaGreatDoorP3
import Derived.Test.YteialbmhjmncmaaGreatDoorB2
namespace Go.Abs
open Go Go.Proofs
set_option maxRecDepth 100000
theorem TryztiAt1 : Tryzti.get 1 = some ⟨.func, false, 1, 8, [.nilf], none⟩ := by rfl
theorem TryztiAt2 : Tryzti.get 2 = some ⟨.int .i64, false, 1, 8, [.int .i64 (0)], none⟩ := by rfl
theorem TryztiAt3 : Tryzti.get 3 = some ⟨.int .i64, false, 1, 8, [.int .i64 (0)], none⟩ := by rfl
theorem TryztiAt4 : Tryzti.get 4 = some ⟨.bool, false, 1, 1, [.bool false], none⟩ := by rfl
theorem TryztiAt5 : Tryzti.get 5 = some ⟨.int .u8, false, 1, 1, [.int .u8 (0)], none⟩ := by rfl
theorem TryztiAt6 : Tryzti.get 6 = some ⟨.int .u8, false, 1, 1, [.int .u8 (0)], none⟩ := by rfl
theorem TryztiAt7 : Tryzti.get 7 = some ⟨.struct [(0, 2), (1, 3), (2, 4), (3, 6)], true, 4, 24, [.int .i64 (0), .int .i64 (0), .bool false, .int .u8 (0)], some [.int .i64, .int .i64, .bool, .int .u8]⟩ := by rfl
theorem TryztiAt8 : Tryzti.get 8 = some ⟨.struct [(0, 2), (1, 3), (2, 4), (3, 6)], true, 4, 24, [.int .i64 (0), .int .i64 (0), .bool false, .int .u8 (0)], some [.int .i64, .int .i64, .bool, .int .u8]⟩ := by rfl
theorem TryztiAt9 : Tryzti.get 9 = some ⟨.str, false, 1, 16, [.str []], none⟩ := by rfl
theorem TryztiAt10 : Tryzti.get 10 = some ⟨.str, false, 1, 16, [.str []], none⟩ := by rfl
theorem TryztiAt11 : Tryzti.get 11 = some ⟨.str, false, 1, 16, [.str []], none⟩ := by rfl
theorem TryztiAt12 : Tryzti.get 12 = some ⟨.int .u64, false, 1, 8, [.int .u64 (0)], none⟩ := by rfl
theorem TryztiAt13 : Tryzti.get 13 = some ⟨.struct [(0, 9), (1, 12)], true, 2, 24, [.str [], .int .u64 (0)], none⟩ := by rfl
theorem TryztiAt14 : Tryzti.get 14 = some ⟨.struct [(0, 9), (1, 12)], true, 2, 24, [.str [], .int .u64 (0)], none⟩ := by rfl
theorem TryztiAt15 : Tryzti.get 15 = some ⟨.ptr, false, 1, 8, [.nilp], none⟩ := by rfl
theorem TryztiAt16 : Tryzti.get 16 = some ⟨.ptr, false, 1, 8, [.nilp], none⟩ := by rfl
theorem TryztiAt17 : Tryzti.get 17 = some ⟨.ptr, false, 1, 8, [.nilp], none⟩ := by rfl
theorem TryztiAt18 : Tryzti.get 18 = some ⟨.struct [(0, 17)], true, 1, 8, [.nilp], none⟩ := by rfl
theorem TryztiAt19 : Tryzti.get 19 = some ⟨.struct [(0, 17)], true, 1, 8, [.nilp], none⟩ := by rfl
theorem TryztiAt20 : Tryzti.get 20 = some ⟨.other, false, 1, 16, [.bad], none⟩ := by rfl
theorem TryztiAt21 : Tryzti.get 21 = some ⟨.int .i32, false, 1, 4, [.int .i32 (0)], none⟩ := by rfl
theorem TryztiAt22 : Tryzti.get 22 = some ⟨.struct [(0, 3), (1, 3), (2, 3), (3, 3)], true, 4, 32, [.int .i64 (0), .int .i64 (0), .int .i64 (0), .int .i64 (0)], some [.int .i64, .int .i64, .int .i64, .int .i64]⟩ := by rfl
theorem TryztiAt23 : Tryzti.get 23 = some ⟨.struct [(0, 3), (1, 3), (2, 3), (3, 3)], true, 4, 32, [.int .i64 (0), .int .i64 (0), .int .i64 (0), .int .i64 (0)], some [.int .i64, .int .i64, .int .i64, .int .i64]⟩ := by rfl
theorem TryztiAt24 : Tryzti.get 24 = some ⟨.ptr, false, 1, 8, [.nilp], none⟩ := by rfl
theorem TryztiAt25 : Tryzti.get 25 = some ⟨.int .i64, false, 1, 8, [.int .i64 (0)], none⟩ := by rfl
theorem TryztiAt27 : Tryzti.get 27 = some ⟨.func, false, 1, 8, [.nilf], none⟩ := by rfl
theorem TryztiAt28 : Tryzti.get 28 = some ⟨.ptr, false, 1, 8, [.nilp], none⟩ := by rfl
theorem TryztiAt29 : Tryzti.get 29 = some ⟨.func, false, 1, 8, [.nilf], none⟩ := by rfl
theorem TryztiAt30 : Tryzti.get 30 = some ⟨.ptr, false, 1, 8, [.nilp], none⟩ := by rfl
theorem TryztiAt31 : Tryzti.get 31 = some ⟨.func, false, 1, 8, [.nilf], none⟩ := by rfl
theorem TryztiAt32 : Tryzti.get 32 = some ⟨.slice 59, false, 1, 24, [.nils], none⟩ := by rfl
theorem TryztiAt33 : Tryzti.get 33 = some ⟨.func, false, 1, 8, [.nilf], none⟩ := by rfl
theorem TryztiAt34 : Tryzti.get 34 = some ⟨.func, false, 1, 8, [.nilf], none⟩ := by rfl
theorem TryztiAt35 : Tryzti.get 35 = some ⟨.func, false, 1, 8, [.nilf], none⟩ := by rfl
theorem TryztiAt36 : Tryzti.get 36 = some ⟨.func, false, 1, 8, [.nilf], none⟩ := by rfl
theorem TryztiAt37 : Tryzti.get 37 = some ⟨.func, false, 1, 8, [.nilf], none⟩ := by rfl
theorem TryztiAt38 : Tryzti.get 38 = some ⟨.ptr, false, 1, 8, [.nilp], none⟩ := by rfl
theorem TryztiAt40 : Tryzti.get 40 = some ⟨.func, false, 1, 8, [.nilf], none⟩ := by rfl
theorem TryztiAt41 : Tryzti.get 41 = some ⟨.slice 111, false, 1, 24, [.nils], none⟩ := by rfl
theorem TryztiAt42 : Tryzti.get 42 = some ⟨.struct [(0, 23), (4, 28), (5, 30), (6, 32), (7, 38), (8, 41)], true, 9, 104, [.int .i64 (0), .int .i64 (0), .int .i64 (0), .int .i64 (0), .nilp, .nilp, .nils, .nilp, .nils], none⟩ := by rfl
theorem TryztiAt43 : Tryzti.get 43 = some ⟨.struct [(0, 23), (4, 28), (5, 30), (6, 32), (7, 38), (8, 41)], true, 9, 104, [.int .i64 (0), .int .i64 (0), .int .i64 (0), .int .i64 (0), .nilp, .nilp, .nils, .nilp, .nils], none⟩ := by rfl
theorem TryztiAt44 : Tryzti.get 44 = some ⟨.map 9 68, false, 1, 8, [.nilm], none⟩ := by rfl
theorem TryztiAt45 : Tryzti.get 45 = some ⟨.map 9 54, false, 1, 8, [.nilm], none⟩ := by rfl
theorem TryztiAt46 : Tryzti.get 46 = some ⟨.struct [(0, 30), (1, 44), (2, 45)], true, 3, 24, [.nilp, .nilm, .nilm], none⟩ := by rfl
theorem TryztiAt47 : Tryzti.get 47 = some ⟨.struct [(0, 30), (1, 44), (2, 45)], true, 3, 24, [.nilp, .nilm, .nilm], none⟩ := by rfl
theorem TryztiAt48 : Tryzti.get 48 = some ⟨.slice 51, false, 1, 24, [.nils], none⟩ := by rfl
theorem TryztiAt49 : Tryzti.get 49 = some ⟨.func, false, 1, 8, [.nilf], none⟩ := by rfl
theorem TryztiAt50 : Tryzti.get 50 = some ⟨.struct [(0, 9), (1, 3), (2, 4)], true, 3, 32, [.str [], .int .i64 (0), .bool false], some [.str, .int .i64, .bool]⟩ := by rfl
theorem TryztiAt51 : Tryzti.get 51 = some ⟨.struct [(0, 9), (1, 3), (2, 4)], true, 3, 32, [.str [], .int .i64 (0), .bool false], some [.str, .int .i64, .bool]⟩ := by rfl
theorem TryztiAt53 : Tryzti.get 53 = some ⟨.func, false, 1, 8, [.nilf], none⟩ := by rfl
theorem TryztiAt54 : Tryzti.get 54 = some ⟨.slice 9, false, 1, 24, [.nils], none⟩ := by rfl
theorem TryztiAt55 : Tryzti.get 55 = some ⟨.struct [(0, 9), (1, 54), (2, 54)], true, 3, 64, [.str [], .nils, .nils], none⟩ := by rfl
theorem TryztiAt56 : Tryzti.get 56 = some ⟨.struct [(0, 9), (1, 54), (2, 54)], true, 3, 64, [.str [], .nils, .nils], none⟩ := by rfl
theorem TryztiAt57 : Tryzti.get 57 = some ⟨.slice 56, false, 1, 24, [.nils], none⟩ := by rfl
theorem TryztiAt58 : Tryzti.get 58 = some ⟨.struct [(0, 9), (1, 9), (2, 9), (3, 3), (4, 4)], true, 5, 64, [.str [], .str [], .str [], .int .i64 (0), .bool false], some [.str, .str, .str, .int .i64, .bool]⟩ := by rfl
theorem TryztiAt59 : Tryzti.get 59 = some ⟨.struct [(0, 9), (1, 9), (2, 9), (3, 3), (4, 4)], true, 5, 64, [.str [], .str [], .str [], .int .i64 (0), .bool false], some [.str, .str, .str, .int .i64, .bool]⟩ := by rfl
theorem TryztiAt60 : Tryzti.get 60 = some ⟨.func, false, 1, 8, [.nilf], none⟩ := by rfl
theorem TryztiAt62 : Tryzti.get 62 = some ⟨.func, false, 1, 8, [.nilf], none⟩ := by rfl
theorem TryztiAt63 : Tryzti.get 63 = some ⟨.struct [(0, 3), (1, 3), (2, 9), (3, 3)], true, 4, 40, [.int .i64 (0), .int .i64 (0), .str [], .int .i64 (0)], some [.int .i64, .int .i64, .str, .int .i64]⟩ := by rfl
theorem TryztiAt64 : Tryzti.get 64 = some ⟨.struct [(0, 3), (1, 3), (2, 9), (3, 3)], true, 4, 40, [.int .i64 (0), .int .i64 (0), .str [], .int .i64 (0)], some [.int .i64, .int .i64, .str, .int .i64]⟩ := by rfl
theorem TryztiAt65 : Tryzti.get 65 = some ⟨.func, false, 1, 8, [.nilf], none⟩ := by rfl
theorem TryztiAt66 : Tryzti.get 66 = some ⟨.slice 109, false, 1, 24, [.nils], none⟩ := by rfl
theorem TryztiAt67 : Tryzti.get 67 = some ⟨.struct [(0, 9), (1, 66)], true, 2, 40, [.str [], .nils], none⟩ := by rfl
theorem TryztiAt68 : Tryzti.get 68 = some ⟨.struct [(0, 9), (1, 66)], true, 2, 40, [.str [], .nils], none⟩ := by rfl
theorem TryztiAt69 : Tryzti.get 69 = some ⟨.func, false, 1, 8, [.nilf], none⟩ := by rfl
theorem TryztiAt70 : Tryzti.get 70 = some ⟨.func, false, 1, 8, [.nilf], none⟩ := by rfl
theorem TryztiAt71 : Tryzti.get 71 = some ⟨.struct [(0, 9), (1, 54), (2, 9)], true, 3, 56, [.str [], .nils, .str []], none⟩ := by rfl
theorem TryztiAt72 : Tryzti.get 72 = some ⟨.struct [(0, 9), (1, 54), (2, 9)], true, 3, 56, [.str [], .nils, .str []], none⟩ := by rfl
theorem TryztiAt73 : Tryzti.get 73 = some ⟨.slice 75, false, 1, 24, [.nils], none⟩ := by rfl
theorem TryztiAt74 : Tryzti.get 74 = some ⟨.struct [(0, 3), (1, 9), (2, 9), (3, 72), (6, 73)], true, 7, 120, [.int .i64 (0), .str [], .str [], .str [], .nils, .str [], .nils], none⟩ := by rfl
theorem TryztiAt75 : Tryzti.get 75 = some ⟨.struct [(0, 3), (1, 9), (2, 9), (3, 72), (6, 73)], true, 7, 120, [.int .i64 (0), .str [], .str [], .str [], .nils, .str [], .nils], none⟩ := by rfl
theorem TryztiAt76 : Tryzti.get 76 = some ⟨.slice 210, false, 1, 24, [.nils], none⟩ := by rfl
theorem TryztiAt77 : Tryzti.get 77 = some ⟨.struct [(0, 3), (1, 9), (2, 9)], true, 3, 40, [.int .i64 (0), .str [], .str []], some [.int .i64, .str, .str]⟩ := by rfl
theorem TryztiAt78 : Tryzti.get 78 = some ⟨.struct [(0, 3), (1, 9), (2, 9)], true, 3, 40, [.int .i64 (0), .str [], .str []], some [.int .i64, .str, .str]⟩ := by rfl
theorem TryztiAt79 : Tryzti.get 79 = some ⟨.slice 147, false, 1, 24, [.nils], none⟩ := by rfl
theorem TryztiAt80 : Tryzti.get 80 = some ⟨.struct [(0, 3), (1, 3), (2, 9), (3, 9), (4, 3), (5, 3), (6, 4), (7, 75), (14, 54), (15, 68), (17, 76), (18, 9), (19, 4), (20, 9), (21, 4), (22, 9), (23, 9), (24, 3), (25, 78), (28, 79)], true, 29, 432, [.int .i64 (0), .int .i64 (0), .str [], .str [], .int .i64 (0), .int .i64 (0), .bool false, .int .i64 (0), .str [], .str [], .str [], .nils, .str [], .nils, .nils, .str [], .nils, .nils, .str [], .bool false, .str [], .bool false, .str [], .str [], .int .i64 (0), .int .i64 (0), .str [], .str [], .nils], none⟩ := by rfl
theorem TryztiAt81 : Tryzti.get 81 = some ⟨.struct [(0, 3), (1, 3), (2, 9), (3, 9), (4, 3), (5, 3), (6, 4), (7, 75), (14, 54), (15, 68), (17, 76), (18, 9), (19, 4), (20, 9), (21, 4), (22, 9), (23, 9), (24, 3), (25, 78), (28, 79)], true, 29, 432, [.int .i64 (0), .int .i64 (0), .str [], .str [], .int .i64 (0), .int .i64 (0), .bool false, .int .i64 (0), .str [], .str [], .str [], .nils, .str [], .nils, .nils, .str [], .nils, .nils, .str [], .bool false, .str [], .bool false, .str [], .str [], .int .i64 (0), .int .i64 (0), .str [], .str [], .nils], none⟩ := by rfl
theorem TryztiAt82 : Tryzti.get 82 = some ⟨.func, false, 1, 8, [.nilf], none⟩ := by rfl
theorem TryztiAt83 : Tryzti.get 83 = some ⟨.func, false, 1, 8, [.nilf], none⟩ := by rfl
theorem TryztiAt84 : Tryzti.get 84 = some ⟨.func, false, 1, 8, [.nilf], none⟩ := by rfl
theorem TryztiAt85 : Tryzti.get 85 = some ⟨.func, false, 1, 8, [.nilf], none⟩ := by rfl
theorem TryztiAt86 : Tryzti.get 86 = some ⟨.ptr, false, 1, 8, [.nilp], none⟩ := by rfl
theorem TryztiAt88 : Tryzti.get 88 = some ⟨.func, false, 1, 8, [.nilf], none⟩ := by rfl
theorem TryztiAt89 : Tryzti.get 89 = some ⟨.map 183 187, false, 1, 8, [.nilm], none⟩ := by rfl
theorem TryztiAt90 : Tryzti.get 90 = some ⟨.struct [(0, 30), (1, 32), (2, 3), (3, 89), (4, 3)], true, 5, 56, [.nilp, .nils, .int .i64 (0), .nilm, .int .i64 (0)], none⟩ := by rfl
theorem TryztiAt91 : Tryzti.get 91 = some ⟨.struct [(0, 30), (1, 32), (2, 3), (3, 89), (4, 3)], true, 5, 56, [.nilp, .nils, .int .i64 (0), .nilm, .int .i64 (0)], none⟩ := by rfl
theorem TryztiAt92 : Tryzti.get 92 = some ⟨.func, false, 1, 8, [.nilf], none⟩ := by rfl
theorem TryztiAt93 : Tryzti.get 93 = some ⟨.map 9 51, false, 1, 8, [.nilm], none⟩ := by rfl
theorem TryztiAt94 : Tryzti.get 94 = some ⟨.struct [(0, 93)], true, 1, 8, [.nilm], none⟩ := by rfl
theorem TryztiAt95 : Tryzti.get 95 = some ⟨.struct [(0, 93)], true, 1, 8, [.nilm], none⟩ := by rfl
theorem TryztiAt96 : Tryzti.get 96 = some ⟨.map 9 56, false, 1, 8, [.nilm], none⟩ := by rfl
theorem TryztiAt97 : Tryzti.get 97 = some ⟨.struct [(0, 95), (1, 96)], true, 2, 16, [.nilm, .nilm], none⟩ := by rfl
theorem TryztiAt98 : Tryzti.get 98 = some ⟨.struct [(0, 95), (1, 96)], true, 2, 16, [.nilm, .nilm], none⟩ := by rfl
theorem TryztiAt99 : Tryzti.get 99 = some ⟨.struct [(0, 98)], true, 2, 16, [.nilm, .nilm], none⟩ := by rfl
theorem TryztiAt100 : Tryzti.get 100 = some ⟨.struct [(0, 98)], true, 2, 16, [.nilm, .nilm], none⟩ := by rfl
theorem TryztiAt101 : Tryzti.get 101 = some ⟨.func, false, 1, 8, [.nilf], none⟩ := by rfl
theorem TryztiAt102 : Tryzti.get 102 = some ⟨.func, false, 1, 8, [.nilf], none⟩ := by rfl
theorem TryztiAt103 : Tryzti.get 103 = some ⟨.func, false, 1, 8, [.nilf], none⟩ := by rfl
theorem TryztiAt105 : Tryzti.get 105 = some ⟨.func, false, 1, 8, [.nilf], none⟩ := by rfl
theorem TryztiAt106 : Tryzti.get 106 = some ⟨.func, false, 1, 8, [.nilf], none⟩ := by rfl
theorem TryztiAt107 : Tryzti.get 107 = some ⟨.func, false, 1, 8, [.nilf], none⟩ := by rfl
theorem TryztiAt108 : Tryzti.get 108 = some ⟨.struct [(0, 9), (1, 54)], true, 2, 40, [.str [], .nils], none⟩ := by rfl
theorem TryztiAt109 : Tryzti.get 109 = some ⟨.struct [(0, 9), (1, 54)], true, 2, 40, [.str [], .nils], none⟩ := by rfl
theorem TryztiAt110 : Tryzti.get 110 = some ⟨.func, false, 1, 8, [.nilf], none⟩ := by rfl
theorem TryztiAt111 : Tryzti.get 111 = some ⟨.ptr, false, 1, 8, [.nilp], none⟩ := by rfl
theorem TryztiAt112 : Tryzti.get 112 = some ⟨.func, false, 1, 8, [.nilf], none⟩ := by rfl
theorem TryztiAt113 : Tryzti.get 113 = some ⟨.func, false, 1, 8, [.nilf], none⟩ := by rfl
theorem TryztiAt114 : Tryzti.get 114 = some ⟨.slice 5, false, 1, 24, [.nils], none⟩ := by rfl
theorem TryztiAt115 : Tryzti.get 115 = some ⟨.slice 81, false, 1, 24, [.nils], none⟩ := by rfl
theorem TryztiAt116 : Tryzti.get 116 = some ⟨.struct [(0, 115), (1, 3)], true, 2, 32, [.nils, .int .i64 (0)], none⟩ := by rfl
theorem TryztiAt117 : Tryzti.get 117 = some ⟨.struct [(0, 115), (1, 3)], true, 2, 32, [.nils, .int .i64 (0)], none⟩ := by rfl
theorem TryztiAt118 : Tryzti.get 118 = some ⟨.func, false, 1, 8, [.nilf], none⟩ := by rfl
theorem TryztiAt119 : Tryzti.get 119 = some ⟨.func, false, 1, 8, [.nilf], none⟩ := by rfl
theorem TryztiAt120 : Tryzti.get 120 = some ⟨.func, false, 1, 8, [.nilf], none⟩ := by rfl
theorem TryztiAt121 : Tryzti.get 121 = some ⟨.func, false, 1, 8, [.nilf], none⟩ := by rfl
theorem TryztiAt122 : Tryzti.get 122 = some ⟨.func, false, 1, 8, [.nilf], none⟩ := by rfl
theorem TryztiAt123 : Tryzti.get 123 = some ⟨.func, false, 1, 8, [.nilf], none⟩ := by rfl
theorem TryztiAt124 : Tryzti.get 124 = some ⟨.slice 54, false, 1, 24, [.nils], none⟩ := by rfl
theorem TryztiAt125 : Tryzti.get 125 = some ⟨.func, false, 1, 8, [.nilf], none⟩ := by rfl
theorem TryztiAt126 : Tryzti.get 126 = some ⟨.ptr, false, 1, 8, [.nilp], none⟩ := by rfl
theorem TryztiAt127 : Tryzti.get 127 = some ⟨.ptr, false, 1, 8, [.nilp], none⟩ := by rfl
theorem TryztiAt129 : Tryzti.get 129 = some ⟨.func, false, 1, 8, [.nilf], none⟩ := by rfl
theorem TryztiAt130 : Tryzti.get 130 = some ⟨.ptr, false, 1, 8, [.nilp], none⟩ := by rfl
theorem TryztiAt132 : Tryzti.get 132 = some ⟨.func, false, 1, 8, [.nilf], none⟩ := by rfl
theorem TryztiAt133 : Tryzti.get 133 = some ⟨.struct [(0, 127), (1, 130), (2, 9), (3, 115), (4, 4)], true, 5, 64, [.nilp, .nilp, .str [], .nils, .bool false], none⟩ := by rfl
theorem TryztiAt134 : Tryzti.get 134 = some ⟨.struct [(0, 127), (1, 130), (2, 9), (3, 115), (4, 4)], true, 5, 64, [.nilp, .nilp, .str [], .nils, .bool false], none⟩ := by rfl
theorem TryztiAt135 : Tryzti.get 135 = some ⟨.func, false, 1, 8, [.nilf], none⟩ := by rfl
theorem TryztiAt136 : Tryzti.get 136 = some ⟨.func, false, 1, 8, [.nilf], none⟩ := by rfl
theorem TryztiAt137 : Tryzti.get 137 = some ⟨.func, false, 1, 8, [.nilf], none⟩ := by rfl
theorem TryztiAt138 : Tryzti.get 138 = some ⟨.ptr, false, 1, 8, [.nilp], none⟩ := by rfl
theorem TryztiAt139 : Tryzti.get 139 = some ⟨.struct [(0, 9), (1, 25)], true, 2, 24, [.str [], .int .i64 (0)], some [.str, .int .i64]⟩ := by rfl
theorem TryztiAt140 : Tryzti.get 140 = some ⟨.struct [(0, 9), (1, 25)], true, 2, 24, [.str [], .int .i64 (0)], some [.str, .int .i64]⟩ := by rfl
theorem TryztiAt141 : Tryzti.get 141 = some ⟨.func, false, 1, 8, [.nilf], none⟩ := by rfl
theorem TryztiAt142 : Tryzti.get 142 = some ⟨.func, false, 1, 8, [.nilf], none⟩ := by rfl
theorem TryztiAt143 : Tryzti.get 143 = some ⟨.func, false, 1, 8, [.nilf], none⟩ := by rfl
theorem TryztiAt144 : Tryzti.get 144 = some ⟨.func, false, 1, 8, [.nilf], none⟩ := by rfl
theorem TryztiAt145 : Tryzti.get 145 = some ⟨.func, false, 1, 8, [.nilf], none⟩ := by rfl
theorem TryztiAt146 : Tryzti.get 146 = some ⟨.struct [(0, 9), (1, 4), (2, 9)], true, 3, 40, [.str [], .bool false, .str []], some [.str, .bool, .str]⟩ := by rfl
theorem TryztiAt147 : Tryzti.get 147 = some ⟨.struct [(0, 9), (1, 4), (2, 9)], true, 3, 40, [.str [], .bool false, .str []], some [.str, .bool, .str]⟩ := by rfl
theorem TryztiAt148 : Tryzti.get 148 = some ⟨.func, false, 1, 8, [.nilf], none⟩ := by rfl
theorem TryztiAt150 : Tryzti.get 150 = some ⟨.func, false, 1, 8, [.nilf], none⟩ := by rfl
theorem TryztiAt151 : Tryzti.get 151 = some ⟨.map 9 3, false, 1, 8, [.nilm], none⟩ := by rfl
theorem TryztiAt152 : Tryzti.get 152 = some ⟨.struct [(0, 114), (1, 3)], true, 2, 32, [.nils, .int .i64 (0)], none⟩ := by rfl
theorem TryztiAt153 : Tryzti.get 153 = some ⟨.struct [(0, 114), (1, 3)], true, 2, 32, [.nils, .int .i64 (0)], none⟩ := by rfl
theorem TryztiAt154 : Tryzti.get 154 = some ⟨.struct [(0, 3), (1, 114), (2, 25)], true, 3, 40, [.int .i64 (0), .nils, .int .i64 (0)], none⟩ := by rfl
theorem TryztiAt155 : Tryzti.get 155 = some ⟨.struct [(0, 3), (1, 114), (2, 25)], true, 3, 40, [.int .i64 (0), .nils, .int .i64 (0)], none⟩ := by rfl
theorem TryztiAt157 : Tryzti.get 157 = some ⟨.func, false, 1, 8, [.nilf], none⟩ := by rfl
theorem TryztiAt159 : Tryzti.get 159 = some ⟨.func, false, 1, 8, [.nilf], none⟩ := by rfl
theorem TryztiAt160 : Tryzti.get 160 = some ⟨.func, false, 1, 8, [.nilf], none⟩ := by rfl
theorem TryztiAt161 : Tryzti.get 161 = some ⟨.func, false, 1, 8, [.nilf], none⟩ := by rfl
theorem TryztiAt162 : Tryzti.get 162 = some ⟨.func, false, 1, 8, [.nilf], none⟩ := by rfl
theorem TryztiAt163 : Tryzti.get 163 = some ⟨.func, false, 1, 8, [.nilf], none⟩ := by rfl
theorem TryztiAt164 : Tryzti.get 164 = some ⟨.func, false, 1, 8, [.nilf], none⟩ := by rfl
theorem TryztiAt165 : Tryzti.get 165 = some ⟨.func, false, 1, 8, [.nilf], none⟩ := by rfl
theorem TryztiAt166 : Tryzti.get 166 = some ⟨.func, false, 1, 8, [.nilf], none⟩ := by rfl
theorem TryztiAt167 : Tryzti.get 167 = some ⟨.func, false, 1, 8, [.nilf], none⟩ := by rfl
theorem TryztiAt168 : Tryzti.get 168 = some ⟨.func, false, 1, 8, [.nilf], none⟩ := by rfl
theorem TryztiAt169 : Tryzti.get 169 = some ⟨.func, false, 1, 8, [.nilf], none⟩ := by rfl
theorem TryztiAt170 : Tryzti.get 170 = some ⟨.func, false, 1, 8, [.nilf], none⟩ := by rfl
theorem TryztiAt171 : Tryzti.get 171 = some ⟨.func, false, 1, 8, [.nilf], none⟩ := by rfl
theorem TryztiAt172 : Tryzti.get 172 = some ⟨.func, false, 1, 8, [.nilf], none⟩ := by rfl
theorem TryztiAt173 : Tryzti.get 173 = some ⟨.slice 178, false, 1, 24, [.nils], none⟩ := by rfl
theorem TryztiAt174 : Tryzti.get 174 = some ⟨.slice 178, false, 1, 24, [.nils], none⟩ := by rfl
theorem TryztiAt176 : Tryzti.get 176 = some ⟨.func, false, 1, 8, [.nilf], none⟩ := by rfl
theorem TryztiAt177 : Tryzti.get 177 = some ⟨.slice 224, false, 1, 24, [.nils], none⟩ := by rfl
theorem TryztiAt178 : Tryzti.get 178 = some ⟨.slice 224, false, 1, 24, [.nils], none⟩ := by rfl
theorem TryztiAt179 : Tryzti.get 179 = some ⟨.func, false, 1, 8, [.nilf], none⟩ := by rfl
theorem TryztiAt180 : Tryzti.get 180 = some ⟨.slice 183, false, 1, 24, [.nils], none⟩ := by rfl
theorem TryztiAt181 : Tryzti.get 181 = some ⟨.func, false, 1, 8, [.nilf], none⟩ := by rfl
theorem TryztiAt182 : Tryzti.get 182 = some ⟨.struct [(0, 3), (1, 3)], true, 2, 16, [.int .i64 (0), .int .i64 (0)], some [.int .i64, .int .i64]⟩ := by rfl
theorem TryztiAt183 : Tryzti.get 183 = some ⟨.struct [(0, 3), (1, 3)], true, 2, 16, [.int .i64 (0), .int .i64 (0)], some [.int .i64, .int .i64]⟩ := by rfl
theorem TryztiAt185 : Tryzti.get 185 = some ⟨.func, false, 1, 8, [.nilf], none⟩ := by rfl
theorem TryztiAt186 : Tryzti.get 186 = some ⟨.func, false, 1, 8, [.nilf], none⟩ := by rfl
theorem TryztiAt187 : Tryzti.get 187 = some ⟨.ptr, false, 1, 8, [.nilp], none⟩ := by rfl
theorem TryztiAt188 : Tryzti.get 188 = some ⟨.struct [(0, 3), (1, 4), (2, 4)], true, 3, 16, [.int .i64 (0), .bool false, .bool false], some [.int .i64, .bool, .bool]⟩ := by rfl
theorem TryztiAt189 : Tryzti.get 189 = some ⟨.struct [(0, 3), (1, 4), (2, 4)], true, 3, 16, [.int .i64 (0), .bool false, .bool false], some [.int .i64, .bool, .bool]⟩ := by rfl
theorem TryztiAt190 : Tryzti.get 190 = some ⟨.struct [(0, 3), (1, 3), (2, 9), (3, 9), (4, 3), (5, 75), (12, 54), (13, 4), (14, 189)], true, 17, 224, [.int .i64 (0), .int .i64 (0), .str [], .str [], .int .i64 (0), .int .i64 (0), .str [], .str [], .str [], .nils, .str [], .nils, .nils, .bool false, .int .i64 (0), .bool false, .bool false], none⟩ := by rfl
theorem TryztiAt191 : Tryzti.get 191 = some ⟨.struct [(0, 3), (1, 3), (2, 9), (3, 9), (4, 3), (5, 75), (12, 54), (13, 4), (14, 189)], true, 17, 224, [.int .i64 (0), .int .i64 (0), .str [], .str [], .int .i64 (0), .int .i64 (0), .str [], .str [], .str [], .nils, .str [], .nils, .nils, .bool false, .int .i64 (0), .bool false, .bool false], none⟩ := by rfl
theorem TryztiAt192 : Tryzti.get 192 = some ⟨.slice 3, false, 1, 24, [.nils], none⟩ := by rfl
theorem TryztiAt193 : Tryzti.get 193 = some ⟨.struct [(0, 191), (17, 3), (18, 86), (19, 192)], true, 20, 264, [.int .i64 (0), .int .i64 (0), .str [], .str [], .int .i64 (0), .int .i64 (0), .str [], .str [], .str [], .nils, .str [], .nils, .nils, .bool false, .int .i64 (0), .bool false, .bool false, .int .i64 (0), .nilp, .nils], none⟩ := by rfl
theorem TryztiAt194 : Tryzti.get 194 = some ⟨.struct [(0, 191), (17, 3), (18, 86), (19, 192)], true, 20, 264, [.int .i64 (0), .int .i64 (0), .str [], .str [], .int .i64 (0), .int .i64 (0), .str [], .str [], .str [], .nils, .str [], .nils, .nils, .bool false, .int .i64 (0), .bool false, .bool false, .int .i64 (0), .nilp, .nils], none⟩ := by rfl
theorem TryztiAt195 : Tryzti.get 195 = some ⟨.func, false, 1, 8, [.nilf], none⟩ := by rfl
theorem TryztiAt196 : Tryzti.get 196 = some ⟨.struct [(0, 3), (1, 9)], true, 2, 24, [.int .i64 (0), .str []], some [.int .i64, .str]⟩ := by rfl
theorem TryztiAt197 : Tryzti.get 197 = some ⟨.struct [(0, 3), (1, 9)], true, 2, 24, [.int .i64 (0), .str []], some [.int .i64, .str]⟩ := by rfl
theorem TryztiAt199 : Tryzti.get 199 = some ⟨.func, false, 1, 8, [.nilf], none⟩ := by rfl
theorem TryztiAt201 : Tryzti.get 201 = some ⟨.func, false, 1, 8, [.nilf], none⟩ := by rfl
theorem TryztiAt202 : Tryzti.get 202 = some ⟨.func, false, 1, 8, [.nilf], none⟩ := by rfl
theorem TryztiAt203 : Tryzti.get 203 = some ⟨.func, false, 1, 8, [.nilf], none⟩ := by rfl
theorem TryztiAt204 : Tryzti.get 204 = some ⟨.func, false, 1, 8, [.nilf], none⟩ := by rfl
theorem TryztiAt205 : Tryzti.get 205 = some ⟨.func, false, 1, 8, [.nilf], none⟩ := by rfl
theorem TryztiAt206 : Tryzti.get 206 = some ⟨.func, false, 1, 8, [.nilf], none⟩ := by rfl
theorem TryztiAt207 : Tryzti.get 207 = some ⟨.array 4 3, true, 4, 32, [.int .i64 (0), .int .i64 (0), .int .i64 (0), .int .i64 (0)], some [.int .i64, .int .i64, .int .i64, .int .i64]⟩ := by rfl
theorem TryztiAt208 : Tryzti.get 208 = some ⟨.func, false, 1, 8, [.nilf], none⟩ := by rfl
theorem TryztiAt209 : Tryzti.get 209 = some ⟨.struct [(0, 3), (1, 109)], true, 3, 48, [.int .i64 (0), .str [], .nils], none⟩ := by rfl
theorem TryztiAt210 : Tryzti.get 210 = some ⟨.struct [(0, 3), (1, 109)], true, 3, 48, [.int .i64 (0), .str [], .nils], none⟩ := by rfl
theorem TryztiAt211 : Tryzti.get 211 = some ⟨.func, false, 1, 8, [.nilf], none⟩ := by rfl
theorem TryztiAt212 : Tryzti.get 212 = some ⟨.func, false, 1, 8, [.nilf], none⟩ := by rfl
theorem TryztiAt213 : Tryzti.get 213 = some ⟨.func, false, 1, 8, [.nilf], none⟩ := by rfl
theorem TryztiAt214 : Tryzti.get 214 = some ⟨.func, false, 1, 8, [.nilf], none⟩ := by rfl
theorem TryztiAt215 : Tryzti.get 215 = some ⟨.func, false, 1, 8, [.nilf], none⟩ := by rfl
theorem TryztiAt216 : Tryzti.get 216 = some ⟨.func, false, 1, 8, [.nilf], none⟩ := by rfl
theorem TryztiAt217 : Tryzti.get 217 = some ⟨.func, false, 1, 8, [.nilf], none⟩ := by rfl
theorem TryztiAt218 : Tryzti.get 218 = some ⟨.func, false, 1, 8, [.nilf], none⟩ := by rfl
theorem TryztiAt219 : Tryzti.get 219 = some ⟨.func, false, 1, 8, [.nilf], none⟩ := by rfl
theorem TryztiAt220 : Tryzti.get 220 = some ⟨.func, false, 1, 8, [.nilf], none⟩ := by rfl
theorem TryztiAt221 : Tryzti.get 221 = some ⟨.func, false, 1, 8, [.nilf], none⟩ := by rfl
theorem TryztiAt222 : Tryzti.get 222 = some ⟨.func, false, 1, 8, [.nilf], none⟩ := by rfl
theorem TryztiAt223 : Tryzti.get 223 = some ⟨.struct [(0, 9), (1, 9)], true, 2, 32, [.str [], .str []], some [.str, .str]⟩ := by rfl
theorem TryztiAt224 : Tryzti.get 224 = some ⟨.struct [(0, 9), (1, 9)], true, 2, 32, [.str [], .str []], some [.str, .str]⟩ := by rfl
theorem TryztiAt225 : Tryzti.get 225 = some ⟨.func, false, 1, 8, [.nilf], none⟩ := by rfl
theorem TryztiAt226 : Tryzti.get 226 = some ⟨.func, false, 1, 8, [.nilf], none⟩ := by rfl
theorem TryztiAt227 : Tryzti.get 227 = some ⟨.func, false, 1, 8, [.nilf], none⟩ := by rfl
theorem TryztiAt228 : Tryzti.get 228 = some ⟨.func, false, 1, 8, [.nilf], none⟩ := by rfl
theorem TryztiAt230 : Tryzti.get 230 = some ⟨.func, false, 1, 8, [.nilf], none⟩ := by rfl
theorem TryztiAt231 : Tryzti.get 231 = some ⟨.func, false, 1, 8, [.nilf], none⟩ := by rfl
theorem TryztiAt232 : Tryzti.get 232 = some ⟨.func, false, 1, 8, [.nilf], none⟩ := by rfl
theorem TryztiAt233 : Tryzti.get 233 = some ⟨.func, false, 1, 8, [.nilf], none⟩ := by rfl
theorem TryztiAt234 : Tryzti.get 234 = some ⟨.func, false, 1, 8, [.nilf], none⟩ := by rfl
theorem TryztiAt235 : Tryzti.get 235 = some ⟨.func, false, 1, 8, [.nilf], none⟩ := by rfl
theorem TryztiAt237 : Tryzti.get 237 = some ⟨.func, false, 1, 8, [.nilf], none⟩ := by rfl
theorem TryztiAt238 : Tryzti.get 238 = some ⟨.ptr, false, 1, 8, [.nilp], none⟩ := by rfl
theorem TryztiAt239 : Tryzti.get 239 = some ⟨.func, false, 1, 8, [.nilf], none⟩ := by rfl
theorem TryztiAt240 : Tryzti.get 240 = some ⟨.func, false, 1, 8, [.nilf], none⟩ := by rfl
theorem TryztiAt241 : Tryzti.get 241 = some ⟨.slice 197, false, 1, 24, [.nils], none⟩ := by rfl
theorem TryztiAt242 : Tryzti.get 242 = some ⟨.struct [(0, 241), (1, 4)], true, 2, 32, [.nils, .bool false], none⟩ := by rfl
theorem TryztiAt243 : Tryzti.get 243 = some ⟨.struct [(0, 241), (1, 4)], true, 2, 32, [.nils, .bool false], none⟩ := by rfl
theorem TryztiAt244 : Tryzti.get 244 = some ⟨.func, false, 1, 8, [.nilf], none⟩ := by rfl
theorem TryztiAt245 : Tryzti.get 245 = some ⟨.func, false, 1, 8, [.nilf], none⟩ := by rfl
theorem TryztiAt246 : Tryzti.get 246 = some ⟨.func, false, 1, 8, [.nilf], none⟩ := by rfl
theorem TryztiAt247 : Tryzti.get 247 = some ⟨.func, false, 1, 8, [.nilf], none⟩ := by rfl
theorem TryztiAt249 : Tryzti.get 249 = some ⟨.func, false, 1, 8, [.nilf], none⟩ := by rfl
theorem TryztiAt251 : Tryzti.get 251 = some ⟨.func, false, 1, 8, [.nilf], none⟩ := by rfl
theorem TryztiAt252 : Tryzti.get 252 = some ⟨.func, false, 1, 8, [.nilf], none⟩ := by rfl
theorem TryztiAt253 : Tryzti.get 253 = some ⟨.func, false, 1, 8, [.nilf], none⟩ := by rfl
theorem TryztiAt254 : Tryzti.get 254 = some ⟨.func, false, 1, 8, [.nilf], none⟩ := by rfl
theorem TryztiAt256 : Tryzti.get 256 = some ⟨.func, false, 1, 8, [.nilf], none⟩ := by rfl
theorem TryztiAt257 : Tryzti.get 257 = some ⟨.func, false, 1, 8, [.nilf], none⟩ := by rfl
theorem TryztiAt258 : Tryzti.get 258 = some ⟨.func, false, 1, 8, [.nilf], none⟩ := by rfl
theorem TryztiAt259 : Tryzti.get 259 = some ⟨.func, false, 1, 8, [.nilf], none⟩ := by rfl
theorem TryztiAt260 : Tryzti.get 260 = some ⟨.func, false, 1, 8, [.nilf], none⟩ := by rfl
theorem TryztiAt261 : Tryzti.get 261 = some ⟨.func, false, 1, 8, [.nilf], none⟩ := by rfl
theorem TryztiAt263 : Tryzti.get 263 = some ⟨.func, false, 1, 8, [.nilf], none⟩ := by rfl
theorem TryztiAt265 : Tryzti.get 265 = some ⟨.func, false, 1, 8, [.nilf], none⟩ := by rfl
theorem TryztiAt266 : Tryzti.get 266 = some ⟨.func, false, 1, 8, [.nilf], none⟩ := by rfl
theorem TryztiAt267 : Tryzti.get 267 = some ⟨.slice 326, false, 1, 24, [.nils], none⟩ := by rfl
theorem TryztiAt269 : Tryzti.get 269 = some ⟨.func, false, 1, 8, [.nilf], none⟩ := by rfl
theorem TryztiAt270 : Tryzti.get 270 = some ⟨.func, false, 1, 8, [.nilf], none⟩ := by rfl
theorem TryztiAt271 : Tryzti.get 271 = some ⟨.func, false, 1, 8, [.nilf], none⟩ := by rfl
theorem TryztiAt272 : Tryzti.get 272 = some ⟨.func, false, 1, 8, [.nilf], none⟩ := by rfl
theorem TryztiAt273 : Tryzti.get 273 = some ⟨.func, false, 1, 8, [.nilf], none⟩ := by rfl
theorem TryztiAt274 : Tryzti.get 274 = some ⟨.func, false, 1, 8, [.nilf], none⟩ := by rfl
theorem TryztiAt275 : Tryzti.get 275 = some ⟨.func, false, 1, 8, [.nilf], none⟩ := by rfl
theorem TryztiAt276 : Tryzti.get 276 = some ⟨.func, false, 1, 8, [.nilf], none⟩ := by rfl
theorem TryztiAt277 : Tryzti.get 277 = some ⟨.func, false, 1, 8, [.nilf], none⟩ := by rfl
theorem TryztiAt278 : Tryzti.get 278 = some ⟨.int .u64, false, 1, 8, [.int .u64 (0)], none⟩ := by rfl
theorem TryztiAt280 : Tryzti.get 280 = some ⟨.func, false, 1, 8, [.nilf], none⟩ := by rfl
theorem TryztiAt281 : Tryzti.get 281 = some ⟨.func, false, 1, 8, [.nilf], none⟩ := by rfl
theorem TryztiAt282 : Tryzti.get 282 = some ⟨.func, false, 1, 8, [.nilf], none⟩ := by rfl
theorem TryztiAt283 : Tryzti.get 283 = some ⟨.ptr, false, 1, 8, [.nilp], none⟩ := by rfl
theorem TryztiAt284 : Tryzti.get 284 = some ⟨.struct [(0, 283), (1, 114)], true, 2, 32, [.nilp, .nils], none⟩ := by rfl
theorem TryztiAt285 : Tryzti.get 285 = some ⟨.struct [(0, 283), (1, 114)], true, 2, 32, [.nilp, .nils], none⟩ := by rfl
theorem TryztiAt286 : Tryzti.get 286 = some ⟨.other, false, 1, 16, [.bad], none⟩ := by rfl
theorem TryztiAt287 : Tryzti.get 287 = some ⟨.other, false, 1, 16, [.bad], none⟩ := by rfl
theorem TryztiAt289 : Tryzti.get 289 = some ⟨.func, false, 1, 8, [.nilf], none⟩ := by rfl
theorem TryztiAt290 : Tryzti.get 290 = some ⟨.func, false, 1, 8, [.nilf], none⟩ := by rfl
theorem TryztiAt291 : Tryzti.get 291 = some ⟨.func, false, 1, 8, [.nilf], none⟩ := by rfl
theorem TryztiAt292 : Tryzti.get 292 = some ⟨.func, false, 1, 8, [.nilf], none⟩ := by rfl
theorem TryztiAt293 : Tryzti.get 293 = some ⟨.func, false, 1, 8, [.nilf], none⟩ := by rfl
theorem TryztiAt294 : Tryzti.get 294 = some ⟨.func, false, 1, 8, [.nilf], none⟩ := by rfl
theorem TryztiAt295 : Tryzti.get 295 = some ⟨.func, false, 1, 8, [.nilf], none⟩ := by rfl
theorem TryztiAt296 : Tryzti.get 296 = some ⟨.func, false, 1, 8, [.nilf], none⟩ := by rfl
theorem TryztiAt298 : Tryzti.get 298 = some ⟨.func, false, 1, 8, [.nilf], none⟩ := by rfl
theorem TryztiAt300 : Tryzti.get 300 = some ⟨.func, false, 1, 8, [.nilf], none⟩ := by rfl
theorem TryztiAt301 : Tryzti.get 301 = some ⟨.ptr, false, 1, 8, [.nilp], none⟩ := by rfl
theorem TryztiAt302 : Tryzti.get 302 = some ⟨.struct [(0, 238), (1, 81)], true, 30, 440, [.nilp, .int .i64 (0), .int .i64 (0), .str [], .str [], .int .i64 (0), .int .i64 (0), .bool false, .int .i64 (0), .str [], .str [], .str [], .nils, .str [], .nils, .nils, .str [], .nils, .nils, .str [], .bool false, .str [], .bool false, .str [], .str [], .int .i64 (0), .int .i64 (0), .str [], .str [], .nils], none⟩ := by rfl
theorem TryztiAt303 : Tryzti.get 303 = some ⟨.struct [(0, 238), (1, 81)], true, 30, 440, [.nilp, .int .i64 (0), .int .i64 (0), .str [], .str [], .int .i64 (0), .int .i64 (0), .bool false, .int .i64 (0), .str [], .str [], .str [], .nils, .str [], .nils, .nils, .str [], .nils, .nils, .str [], .bool false, .str [], .bool false, .str [], .str [], .int .i64 (0), .int .i64 (0), .str [], .str [], .nils], none⟩ := by rfl
theorem TryztiAt304 : Tryzti.get 304 = some ⟨.func, false, 1, 8, [.nilf], none⟩ := by rfl
theorem TryztiAt305 : Tryzti.get 305 = some ⟨.func, false, 1, 8, [.nilf], none⟩ := by rfl
theorem TryztiAt306 : Tryzti.get 306 = some ⟨.func, false, 1, 8, [.nilf], none⟩ := by rfl
theorem TryztiAt307 : Tryzti.get 307 = some ⟨.func, false, 1, 8, [.nilf], none⟩ := by rfl
theorem TryztiAt308 : Tryzti.get 308 = some ⟨.func, false, 1, 8, [.nilf], none⟩ := by rfl
theorem TryztiAt309 : Tryzti.get 309 = some ⟨.func, false, 1, 8, [.nilf], none⟩ := by rfl
theorem TryztiAt310 : Tryzti.get 310 = some ⟨.func, false, 1, 8, [.nilf], none⟩ := by rfl
theorem TryztiAt311 : Tryzti.get 311 = some ⟨.func, false, 1, 8, [.nilf], none⟩ := by rfl
theorem TryztiAt312 : Tryzti.get 312 = some ⟨.func, false, 1, 8, [.nilf], none⟩ := by rfl
theorem TryztiAt314 : Tryzti.get 314 = some ⟨.func, false, 1, 8, [.nilf], none⟩ := by rfl
theorem TryztiAt315 : Tryzti.get 315 = some ⟨.slice 68, false, 1, 24, [.nils], none⟩ := by rfl
theorem TryztiAt317 : Tryzti.get 317 = some ⟨.func, false, 1, 8, [.nilf], none⟩ := by rfl
theorem TryztiAt319 : Tryzti.get 319 = some ⟨.func, false, 1, 8, [.nilf], none⟩ := by rfl
theorem TryztiAt320 : Tryzti.get 320 = some ⟨.func, false, 1, 8, [.nilf], none⟩ := by rfl
theorem TryztiAt321 : Tryzti.get 321 = some ⟨.func, false, 1, 8, [.nilf], none⟩ := by rfl
theorem TryztiAt322 : Tryzti.get 322 = some ⟨.func, false, 1, 8, [.nilf], none⟩ := by rfl
theorem TryztiAt323 : Tryzti.get 323 = some ⟨.func, false, 1, 8, [.nilf], none⟩ := by rfl
theorem TryztiAt324 : Tryzti.get 324 = some ⟨.func, false, 1, 8, [.nilf], none⟩ := by rfl
theorem TryztiAt325 : Tryzti.get 325 = some ⟨.struct [(0, 3), (1, 3), (2, 68), (4, 68), (6, 9)], true, 7, 112, [.int .i64 (0), .int .i64 (0), .str [], .nils, .str [], .nils, .str []], none⟩ := by rfl
theorem TryztiAt326 : Tryzti.get 326 = some ⟨.struct [(0, 3), (1, 3), (2, 68), (4, 68), (6, 9)], true, 7, 112, [.int .i64 (0), .int .i64 (0), .str [], .nils, .str [], .nils, .str []], none⟩ := by rfl
theorem TryztiAt327 : Tryzti.get 327 = some ⟨.func, false, 1, 8, [.nilf], none⟩ := by rfl
theorem TryztiAt328 : Tryzti.get 328 = some ⟨.func, false, 1, 8, [.nilf], none⟩ := by rfl
theorem TryztiAt329 : Tryzti.get 329 = some ⟨.func, false, 1, 8, [.nilf], none⟩ := by rfl
theorem TryztiAt330 : Tryzti.get 330 = some ⟨.func, false, 1, 8, [.nilf], none⟩ := by rfl
theorem TryztiAt331 : Tryzti.get 331 = some ⟨.func, false, 1, 8, [.nilf], none⟩ := by rfl
theorem TryztiAt332 : Tryzti.get 332 = some ⟨.func, false, 1, 8, [.nilf], none⟩ := by rfl
theorem TryztiAt333 : Tryzti.get 333 = some ⟨.func, false, 1, 8, [.nilf], none⟩ := by rfl
theorem TryztiAt334 : Tryzti.get 334 = some ⟨.func, false, 1, 8, [.nilf], none⟩ := by rfl
theorem TryztiAt335 : Tryzti.get 335 = some ⟨.func, false, 1, 8, [.nilf], none⟩ := by rfl
theorem TryztiAt336 : Tryzti.get 336 = some ⟨.int .i64, false, 1, 8, [.int .i64 (0)], none⟩ := by rfl
theorem TryztiAt338 : Tryzti.get 338 = some ⟨.func, false, 1, 8, [.nilf], none⟩ := by rfl
theorem TryztiAt339 : Tryzti.get 339 = some ⟨.func, false, 1, 8, [.nilf], none⟩ := by rfl
theorem TryztiAt340 : Tryzti.get 340 = some ⟨.func, false, 1, 8, [.nilf], none⟩ := by rfl
theorem TryztiAt341 : Tryzti.get 341 = some ⟨.func, false, 1, 8, [.nilf], none⟩ := by rfl
theorem TryztiAt342 : Tryzti.get 342 = some ⟨.func, false, 1, 8, [.nilf], none⟩ := by rfl
theorem TryztiAt343 : Tryzti.get 343 = some ⟨.int .u32, false, 1, 4, [.int .u32 (0)], none⟩ := by rfl
theorem TryztiAt344 : Tryzti.get 344 = some ⟨.func, false, 1, 8, [.nilf], none⟩ := by rfl
theorem TryztiAt345 : Tryzti.get 345 = some ⟨.int .u64, false, 1, 8, [.int .u64 (0)], none⟩ := by rfl
theorem TryztiAt347 : Tryzti.get 347 = some ⟨.func, false, 1, 8, [.nilf], none⟩ := by rfl
theorem TryztiAt348 : Tryzti.get 348 = some ⟨.func, false, 1, 8, [.nilf], none⟩ := by rfl
theorem TryztiAt349 : Tryzti.get 349 = some ⟨.ptr, false, 1, 8, [.nilp], none⟩ := by rfl
theorem TryztiAt350 : Tryzti.get 350 = some ⟨.func, false, 1, 8, [.nilf], none⟩ := by rfl
theorem TryztiAt351 : Tryzti.get 351 = some ⟨.func, false, 1, 8, [.nilf], none⟩ := by rfl
theorem TryztiAt352 : Tryzti.get 352 = some ⟨.func, false, 1, 8, [.nilf], none⟩ := by rfl
theorem TryztiAt353 : Tryzti.get 353 = some ⟨.func, false, 1, 8, [.nilf], none⟩ := by rfl
theorem TryztiAt354 : Tryzti.get 354 = some ⟨.int .i8, false, 1, 1, [.int .i8 (0)], none⟩ := by rfl
theorem TryztiAt355 : Tryzti.get 355 = some ⟨.func, false, 1, 8, [.nilf], none⟩ := by rfl
theorem TryztiAt357 : Tryzti.get 357 = some ⟨.func, false, 1, 8, [.nilf], none⟩ := by rfl
theorem TryztiAt358 : Tryzti.get 358 = some ⟨.func, false, 1, 8, [.nilf], none⟩ := by rfl
theorem TryztiAt359 : Tryzti.get 359 = some ⟨.func, false, 1, 8, [.nilf], none⟩ := by rfl
theorem TryztiAt360 : Tryzti.get 360 = some ⟨.func, false, 1, 8, [.nilf], none⟩ := by rfl
theorem TryztiAt361 : Tryzti.get 361 = some ⟨.func, false, 1, 8, [.nilf], none⟩ := by rfl
theorem TryztiAt362 : Tryzti.get 362 = some ⟨.func, false, 1, 8, [.nilf], none⟩ := by rfl
theorem TryztiAt363 : Tryzti.get 363 = some ⟨.func, false, 1, 8, [.nilf], none⟩ := by rfl
theorem TryztiAt364 : Tryzti.get 364 = some ⟨.func, false, 1, 8, [.nilf], none⟩ := by rfl
theorem TryztiAt366 : Tryzti.get 366 = some ⟨.func, false, 1, 8, [.nilf], none⟩ := by rfl
theorem TryztiAt367 : Tryzti.get 367 = some ⟨.func, false, 1, 8, [.nilf], none⟩ := by rfl
theorem TryztiAt368 : Tryzti.get 368 = some ⟨.func, false, 1, 8, [.nilf], none⟩ := by rfl
theorem TryztiAt369 : Tryzti.get 369 = some ⟨.func, false, 1, 8, [.nilf], none⟩ := by rfl
theorem TryztiAt370 : Tryzti.get 370 = some ⟨.func, false, 1, 8, [.nilf], none⟩ := by rfl
theorem TryztiAt371 : Tryzti.get 371 = some ⟨.func, false, 1, 8, [.nilf], none⟩ := by rfl
theorem TryztiAt372 : Tryzti.get 372 = some ⟨.func, false, 1, 8, [.nilf], none⟩ := by rfl
theorem TryztiAt373 : Tryzti.get 373 = some ⟨.struct [(0, 9), (1, 9), (2, 9)], true, 3, 48, [.str [], .str [], .str []], some [.str, .str, .str]⟩ := by rfl
theorem TryztiAt374 : Tryzti.get 374 = some ⟨.struct [(0, 9), (1, 9), (2, 9)], true, 3, 48, [.str [], .str [], .str []], some [.str, .str, .str]⟩ := by rfl
theorem TryztiAt375 : Tryzti.get 375 = some ⟨.slice 374, false, 1, 24, [.nils], none⟩ := by rfl
theorem TryztiAt376 : Tryzti.get 376 = some ⟨.func, false, 1, 8, [.nilf], none⟩ := by rfl
theorem TryztiAt377 : Tryzti.get 377 = some ⟨.func, false, 1, 8, [.nilf], none⟩ := by rfl
theorem TryztiAt379 : Tryzti.get 379 = some ⟨.func, false, 1, 8, [.nilf], none⟩ := by rfl
theorem TryztiAt380 : Tryzti.get 380 = some ⟨.func, false, 1, 8, [.nilf], none⟩ := by rfl
theorem TryztiAt381 : Tryzti.get 381 = some ⟨.func, false, 1, 8, [.nilf], none⟩ := by rfl
theorem TryztiAt382 : Tryzti.get 382 = some ⟨.func, false, 1, 8, [.nilf], none⟩ := by rfl
theorem TryztiAt383 : Tryzti.get 383 = some ⟨.func, false, 1, 8, [.nilf], none⟩ := by rfl
theorem TryztiAt384 : Tryzti.get 384 = some ⟨.func, false, 1, 8, [.nilf], none⟩ := by rfl
theorem TryztiAt385 : Tryzti.get 385 = some ⟨.func, false, 1, 8, [.nilf], none⟩ := by rfl
theorem TryztiAt386 : Tryzti.get 386 = some ⟨.func, false, 1, 8, [.nilf], none⟩ := by rfl
theorem TryztiAt387 : Tryzti.get 387 = some ⟨.func, false, 1, 8, [.nilf], none⟩ := by rfl
theorem TryztiAt388 : Tryzti.get 388 = some ⟨.func, false, 1, 8, [.nilf], none⟩ := by rfl
theorem TryztiAt389 : Tryzti.get 389 = some ⟨.int .u64, false, 1, 8, [.int .u64 (0)], none⟩ := by rfl
theorem TryztiAt390 : Tryzti.get 390 = some ⟨.func, false, 1, 8, [.nilf], none⟩ := by rfl
theorem TryztiAt391 : Tryzti.get 391 = some ⟨.func, false, 1, 8, [.nilf], none⟩ := by rfl
theorem TryztiAt392 : Tryzti.get 392 = some ⟨.func, false, 1, 8, [.nilf], none⟩ := by rfl
theorem TryztiAt393 : Tryzti.get 393 = some ⟨.ptr, false, 1, 8, [.nilp], none⟩ := by rfl
theorem TryztiAt394 : Tryzti.get 394 = some ⟨.func, false, 1, 8, [.nilf], none⟩ := by rfl
theorem TryztiAt395 : Tryzti.get 395 = some ⟨.func, false, 1, 8, [.nilf], none⟩ := by rfl
theorem TryztiAt396 : Tryzti.get 396 = some ⟨.array 256 4, true, 256, 256, [.bool false, .bool false, .bool false, .bool false, .bool false, .bool false, .bool false, .bool false, .bool false, .bool false, .bool false, .bool false, .bool false, .bool false, .bool false, .bool false, .bool false, .bool false, .bool false, .bool false, .bool false, .bool false, .bool false, .bool false, .bool false, .bool false, .bool false, .bool false, .bool false, .bool false, .bool false, .bool false, .bool false, .bool false, .bool false, .bool false, .bool false, .bool false, .bool false, .bool false, .bool false, .bool false, .bool false, .bool false, .bool false, .bool false, .bool false, .bool false, .bool false, .bool false, .bool false, .bool false, .bool false, .bool false, .bool false, .bool false, .bool false, .bool false, .bool false, .bool false, .bool false, .bool false, .bool false, .bool false, .bool false, .bool false, .bool false, .bool false, .bool false, .bool false, .bool false, .bool false, .bool false, .bool false, .bool false, .bool false, .bool false, .bool false, .bool false, .bool false, .bool false, .bool false, .bool false, .bool false, .bool false, .bool false, .bool false, .bool false, .bool false, .bool false, .bool false, .bool false, .bool false, .bool false, .bool false, .bool false, .bool false, .bool false, .bool false, .bool false, .bool false, .bool false, .bool false, .bool false, .bool false, .bool false, .bool false, .bool false, .bool false, .bool false, .bool false, .bool false, .bool false, .bool false, .bool false, .bool false, .bool false, .bool false, .bool false, .bool false, .bool false, .bool false, .bool false, .bool false, .bool false, .bool false, .bool false, .bool false, .bool false, .bool false, .bool false, .bool false, .bool false, .bool false, .bool false, .bool false, .bool false, .bool false, .bool false, .bool false, .bool false, .bool false, .bool false, .bool false, .bool false, .bool false, .bool false, .bool false, .bool false, .bool false, .bool false, .bool false, .bool false, .bool false, .bool false, .bool false, .bool false, .bool false, .bool false, .bool false, .bool false, .bool false, .bool false, .bool false, .bool false, .bool false, .bool false, .bool false, .bool false, .bool false, .bool false, .bool false, .bool false, .bool false, .bool false, .bool false, .bool false, .bool false, .bool false, .bool false, .bool false, .bool false, .bool false, .bool false, .bool false, .bool false, .bool false, .bool false, .bool false, .bool false, .bool false, .bool false, .bool false, .bool false, .bool false, .bool false, .bool false, .bool false, .bool false, .bool false, .bool false, .bool false, .bool false, .bool false, .bool false, .bool false, .bool false, .bool false, .bool false, .bool false, .bool false, .bool false, .bool false, .bool false, .bool false, .bool false, .bool false, .bool false, .bool false, .bool false, .bool false, .bool false, .bool false, .bool false, .bool false, .bool false, .bool false, .bool false, .bool false, .bool false, .bool false, .bool false, .bool false, .bool false, .bool false, .bool false, .bool false, .bool false, .bool false, .bool false, .bool false, .bool false, .bool false, .bool false, .bool false, .bool false, .bool false, .bool false, .bool false, .bool false, .bool false, .bool false, .bool false, .bool false, .bool false, .bool false], some [.bool, .bool, .bool, .bool, .bool, .bool, .bool, .bool, .bool, .bool, .bool, .bool, .bool, .bool, .bool, .bool, .bool, .bool, .bool, .bool, .bool, .bool, .bool, .bool, .bool, .bool, .bool, .bool, .bool, .bool, .bool, .bool, .bool, .bool, .bool, .bool, .bool, .bool, .bool, .bool, .bool, .bool, .bool, .bool, .bool, .bool, .bool, .bool, .bool, .bool, .bool, .bool, .bool, .bool, .bool, .bool, .bool, .bool, .bool, .bool, .bool, .bool, .bool, .bool, .bool, .bool, .bool, .bool, .bool, .bool, .bool, .bool, .bool, .bool, .bool, .bool, .bool, .bool, .bool, .bool, .bool, .bool, .bool, .bool, .bool, .bool, .bool, .bool, .bool, .bool, .bool, .bool, .bool, .bool, .bool, .bool, .bool, .bool, .bool, .bool, .bool, .bool, .bool, .bool, .bool, .bool, .bool, .bool, .bool, .bool, .bool, .bool, .bool, .bool, .bool, .bool, .bool, .bool, .bool, .bool, .bool, .bool, .bool, .bool, .bool, .bool, .bool, .bool, .bool, .bool, .bool, .bool, .bool, .bool, .bool, .bool, .bool, .bool, .bool, .bool, .bool, .bool, .bool, .bool, .bool, .bool, .bool, .bool, .bool, .bool, .bool, .bool, .bool, .bool, .bool, .bool, .bool, .bool, .bool, .bool, .bool, .bool, .bool, .bool, .bool, .bool, .bool, .bool, .bool, .bool, .bool, .bool, .bool, .bool, .bool, .bool, .bool, .bool, .bool, .bool, .bool, .bool, .bool, .bool, .bool, .bool, .bool, .bool, .bool, .bool, .bool, .bool, .bool, .bool, .bool, .bool, .bool, .bool, .bool, .bool, .bool, .bool, .bool, .bool, .bool, .bool, .bool, .bool, .bool, .bool, .bool, .bool, .bool, .bool, .bool, .bool, .bool, .bool, .bool, .bool, .bool, .bool, .bool, .bool, .bool, .bool, .bool, .bool, .bool, .bool, .bool, .bool, .bool, .bool, .bool, .bool, .bool, .bool, .bool, .bool, .bool, .bool, .bool, .bool, .bool, .bool, .bool, .bool, .bool, .bool, .bool, .bool, .bool, .bool, .bool, .bool]⟩ := by rfl
theorem TryztiAt397 : Tryzti.get 397 = some ⟨.array 256 4, true, 256, 256, [.bool false, .bool false, .bool false, .bool false, .bool false, .bool false, .bool false, .bool false, .bool false, .bool false, .bool false, .bool false, .bool false, .bool false, .bool false, .bool false, .bool false, .bool false, .bool false, .bool false, .bool false, .bool false, .bool false, .bool false, .bool false, .bool false, .bool false, .bool false, .bool false, .bool false, .bool false, .bool false, .bool false, .bool false, .bool false, .bool false, .bool false, .bool false, .bool false, .bool false, .bool false, .bool false, .bool false, .bool false, .bool false, .bool false, .bool false, .bool false, .bool false, .bool false, .bool false, .bool false, .bool false, .bool false, .bool false, .bool false, .bool false, .bool false, .bool false, .bool false, .bool false, .bool false, .bool false, .bool false, .bool false, .bool false, .bool false, .bool false, .bool false, .bool false, .bool false, .bool false, .bool false, .bool false, .bool false, .bool false, .bool false, .bool false, .bool false, .bool false, .bool false, .bool false, .bool false, .bool false, .bool false, .bool false, .bool false, .bool false, .bool false, .bool false, .bool false, .bool false, .bool false, .bool false, .bool false, .bool false, .bool false, .bool false, .bool false, .bool false, .bool false, .bool false, .bool false, .bool false, .bool false, .bool false, .bool false, .bool false, .bool false, .bool false, .bool false, .bool false, .bool false, .bool false, .bool false, .bool false, .bool false, .bool false, .bool false, .bool false, .bool false, .bool false, .bool false, .bool false, .bool false, .bool false, .bool false, .bool false, .bool false, .bool false, .bool false, .bool false, .bool false, .bool false, .bool false, .bool false, .bool false, .bool false, .bool false, .bool false, .bool false, .bool false, .bool false, .bool false, .bool false, .bool false, .bool false, .bool false, .bool false, .bool false, .bool false, .bool false, .bool false, .bool false, .bool false, .bool false, .bool false, .bool false, .bool false, .bool false, .bool false, .bool false, .bool false, .bool false, .bool false, .bool false, .bool false, .bool false, .bool false, .bool false, .bool false, .bool false, .bool false, .bool false, .bool false, .bool false, .bool false, .bool false, .bool false, .bool false, .bool false, .bool false, .bool false, .bool false, .bool false, .bool false, .bool false, .bool false, .bool false, .bool false, .bool false, .bool false, .bool false, .bool false, .bool false, .bool false, .bool false, .bool false, .bool false, .bool false, .bool false, .bool false, .bool false, .bool false, .bool false, .bool false, .bool false, .bool false, .bool false, .bool false, .bool false, .bool false, .bool false, .bool false, .bool false, .bool false, .bool false, .bool false, .bool false, .bool false, .bool false, .bool false, .bool false, .bool false, .bool false, .bool false, .bool false, .bool false, .bool false, .bool false, .bool false, .bool false, .bool false, .bool false, .bool false, .bool false, .bool false, .bool false, .bool false, .bool false, .bool false, .bool false, .bool false, .bool false, .bool false, .bool false, .bool false, .bool false, .bool false, .bool false, .bool false, .bool false, .bool false, .bool false, .bool false, .bool false], some [.bool, .bool, .bool, .bool, .bool, .bool, .bool, .bool, .bool, .bool, .bool, .bool, .bool, .bool, .bool, .bool, .bool, .bool, .bool, .bool, .bool, .bool, .bool, .bool, .bool, .bool, .bool, .bool, .bool, .bool, .bool, .bool, .bool, .bool, .bool, .bool, .bool, .bool, .bool, .bool, .bool, .bool, .bool, .bool, .bool, .bool, .bool, .bool, .bool, .bool, .bool, .bool, .bool, .bool, .bool, .bool, .bool, .bool, .bool, .bool, .bool, .bool, .bool, .bool, .bool, .bool, .bool, .bool, .bool, .bool, .bool, .bool, .bool, .bool, .bool, .bool, .bool, .bool, .bool, .bool, .bool, .bool, .bool, .bool, .bool, .bool, .bool, .bool, .bool, .bool, .bool, .bool, .bool, .bool, .bool, .bool, .bool, .bool, .bool, .bool, .bool, .bool, .bool, .bool, .bool, .bool, .bool, .bool, .bool, .bool, .bool, .bool, .bool, .bool, .bool, .bool, .bool, .bool, .bool, .bool, .bool, .bool, .bool, .bool, .bool, .bool, .bool, .bool, .bool, .bool, .bool, .bool, .bool, .bool, .bool, .bool, .bool, .bool, .bool, .bool, .bool, .bool, .bool, .bool, .bool, .bool, .bool, .bool, .bool, .bool, .bool, .bool, .bool, .bool, .bool, .bool, .bool, .bool, .bool, .bool, .bool, .bool, .bool, .bool, .bool, .bool, .bool, .bool, .bool, .bool, .bool, .bool, .bool, .bool, .bool, .bool, .bool, .bool, .bool, .bool, .bool, .bool, .bool, .bool, .bool, .bool, .bool, .bool, .bool, .bool, .bool, .bool, .bool, .bool, .bool, .bool, .bool, .bool, .bool, .bool, .bool, .bool, .bool, .bool, .bool, .bool, .bool, .bool, .bool, .bool, .bool, .bool, .bool, .bool, .bool, .bool, .bool, .bool, .bool, .bool, .bool, .bool, .bool, .bool, .bool, .bool, .bool, .bool, .bool, .bool, .bool, .bool, .bool, .bool, .bool, .bool, .bool, .bool, .bool, .bool, .bool, .bool, .bool, .bool, .bool, .bool, .bool, .bool, .bool, .bool, .bool, .bool, .bool, .bool, .bool, .bool]⟩ := by rfl
theorem TryztiAt399 : Tryzti.get 399 = some ⟨.func, false, 1, 8, [.nilf], none⟩ := by rfl
theorem TryztiAt400 : Tryzti.get 400 = some ⟨.func, false, 1, 8, [.nilf], none⟩ := by rfl
theorem TryztiAt401 : Tryzti.get 401 = some ⟨.ptr, false, 1, 8, [.nilp], none⟩ := by rfl
theorem TryztiAt403 : Tryzti.get 403 = some ⟨.func, false, 1, 8, [.nilf], none⟩ := by rfl
theorem TryztiAt404 : Tryzti.get 404 = some ⟨.func, false, 1, 8, [.nilf], none⟩ := by rfl
theorem TryztiAt405 : Tryzti.get 405 = some ⟨.other, false, 1, 8, [.nilp], none⟩ := by rfl
theorem TryztiAt406 : Tryzti.get 406 = some ⟨.func, false, 1, 8, [.nilf], none⟩ := by rfl
theorem TryztiAt407 : Tryzti.get 407 = some ⟨.func, false, 1, 8, [.nilf], none⟩ := by rfl
theorem TryztiAt408 : Tryzti.get 408 = some ⟨.func, false, 1, 8, [.nilf], none⟩ := by rfl
theorem TryztiAt409 : Tryzti.get 409 = some ⟨.func, false, 1, 8, [.nilf], none⟩ := by rfl
theorem TryztiAt411 : Tryzti.get 411 = some ⟨.func, false, 1, 8, [.nilf], none⟩ := by rfl
theorem TryztiAt412 : Tryzti.get 412 = some ⟨.func, false, 1, 8, [.nilf], none⟩ := by rfl
theorem TryztiAt413 : Tryzti.get 413 = some ⟨.func, false, 1, 8, [.nilf], none⟩ := by rfl
theorem TryztiAt414 : Tryzti.get 414 = some ⟨.func, false, 1, 8, [.nilf], none⟩ := by rfl
theorem TryztiAt415 : Tryzti.get 415 = some ⟨.func, false, 1, 8, [.nilf], none⟩ := by rfl
theorem TryztiAt416 : Tryzti.get 416 = some ⟨.func, false, 1, 8, [.nilf], none⟩ := by rfl
theorem TryztiAt417 : Tryzti.get 417 = some ⟨.func, false, 1, 8, [.nilf], none⟩ := by rfl
theorem TryztiAt418 : Tryzti.get 418 = some ⟨.func, false, 1, 8, [.nilf], none⟩ := by rfl
theorem TryztiAt419 : Tryzti.get 419 = some ⟨.func, false, 1, 8, [.nilf], none⟩ := by rfl
theorem TryztiAt420 : Tryzti.get 420 = some ⟨.func, false, 1, 8, [.nilf], none⟩ := by rfl
theorem TryztiAt421 : Tryzti.get 421 = some ⟨.func, false, 1, 8, [.nilf], none⟩ := by rfl
theorem TryztiAt422 : Tryzti.get 422 = some ⟨.func, false, 1, 8, [.nilf], none⟩ := by rfl
theorem TryztiAt423 : Tryzti.get 423 = some ⟨.func, false, 1, 8, [.nilf], none⟩ := by rfl
theorem TryztiAt424 : Tryzti.get 424 = some ⟨.func, false, 1, 8, [.nilf], none⟩ := by rfl
theorem TryztiAt425 : Tryzti.get 425 = some ⟨.struct [(0, 9), (1, 9), (2, 9), (3, 9)], true, 4, 64, [.str [], .str [], .str [], .str []], some [.str, .str, .str, .str]⟩ := by rfl
theorem TryztiAt426 : Tryzti.get 426 = some ⟨.struct [(0, 9), (1, 9), (2, 9), (3, 9)], true, 4, 64, [.str [], .str [], .str [], .str []], some [.str, .str, .str, .str]⟩ := by rfl
theorem TryztiAt428 : Tryzti.get 428 = some ⟨.func, false, 1, 8, [.nilf], none⟩ := by rfl
theorem TryztiAt429 : Tryzti.get 429 = some ⟨.func, false, 1, 8, [.nilf], none⟩ := by rfl
theorem TryztiAt430 : Tryzti.get 430 = some ⟨.func, false, 1, 8, [.nilf], none⟩ := by rfl
theorem TryztiAt431 : Tryzti.get 431 = some ⟨.func, false, 1, 8, [.nilf], none⟩ := by rfl
theorem TryztiAt432 : Tryzti.get 432 = some ⟨.func, false, 1, 8, [.nilf], none⟩ := by rfl
theorem TryztiAt433 : Tryzti.get 433 = some ⟨.struct [(0, 3), (1, 9), (2, 3)], true, 3, 32, [.int .i64 (0), .str [], .int .i64 (0)], some [.int .i64, .str, .int .i64]⟩ := by rfl
theorem TryztiAt434 : Tryzti.get 434 = some ⟨.struct [(0, 3), (1, 9), (2, 3)], true, 3, 32, [.int .i64 (0), .str [], .int .i64 (0)], some [.int .i64, .str, .int .i64]⟩ := by rfl
theorem TryztiAt435 : Tryzti.get 435 = some ⟨.func, false, 1, 8, [.nilf], none⟩ := by rfl
theorem TryztiAt436 : Tryzti.get 436 = some ⟨.func, false, 1, 8, [.nilf], none⟩ := by rfl
theorem TryztiAt437 : Tryzti.get 437 = some ⟨.func, false, 1, 8, [.nilf], none⟩ := by rfl
theorem TryztiAt438 : Tryzti.get 438 = some ⟨.func, false, 1, 8, [.nilf], none⟩ := by rfl
theorem TryztiAt439 : Tryzti.get 439 = some ⟨.ptr, false, 1, 8, [.nilp], none⟩ := by rfl
theorem TryztiAt441 : Tryzti.get 441 = some ⟨.func, false, 1, 8, [.nilf], none⟩ := by rfl
theorem TryztiAt442 : Tryzti.get 442 = some ⟨.func, false, 1, 8, [.nilf], none⟩ := by rfl
theorem TryztiAt444 : Tryzti.get 444 = some ⟨.func, false, 1, 8, [.nilf], none⟩ := by rfl
theorem TryztiAt445 : Tryzti.get 445 = some ⟨.func, false, 1, 8, [.nilf], none⟩ := by rfl
theorem TryztiAt447 : Tryzti.get 447 = some ⟨.func, false, 1, 8, [.nilf], none⟩ := by rfl
theorem TryztiAt448 : Tryzti.get 448 = some ⟨.func, false, 1, 8, [.nilf], none⟩ := by rfl
theorem TryztiAt449 : Tryzti.get 449 = some ⟨.func, false, 1, 8, [.nilf], none⟩ := by rfl
theorem TryztiAt450 : Tryzti.get 450 = some ⟨.func, false, 1, 8, [.nilf], none⟩ := by rfl
theorem TryztiAt451 : Tryzti.get 451 = some ⟨.func, false, 1, 8, [.nilf], none⟩ := by rfl
theorem TryztiAt452 : Tryzti.get 452 = some ⟨.func, false, 1, 8, [.nilf], none⟩ := by rfl
theorem TryztiAt454 : Tryzti.get 454 = some ⟨.func, false, 1, 8, [.nilf], none⟩ := by rfl
theorem TryztiAt455 : Tryzti.get 455 = some ⟨.func, false, 1, 8, [.nilf], none⟩ := by rfl
theorem TryztiAt456 : Tryzti.get 456 = some ⟨.func, false, 1, 8, [.nilf], none⟩ := by rfl
theorem TryztiAt457 : Tryzti.get 457 = some ⟨.func, false, 1, 8, [.nilf], none⟩ := by rfl
theorem TryztiAt458 : Tryzti.get 458 = some ⟨.func, false, 1, 8, [.nilf], none⟩ := by rfl
theorem TryztiAt459 : Tryzti.get 459 = some ⟨.func, false, 1, 8, [.nilf], none⟩ := by rfl
theorem TryztiAt460 : Tryzti.get 460 = some ⟨.func, false, 1, 8, [.nilf], none⟩ := by rfl
theorem TryztiAt461 : Tryzti.get 461 = some ⟨.func, false, 1, 8, [.nilf], none⟩ := by rfl
theorem TryztiAt462 : Tryzti.get 462 = some ⟨.func, false, 1, 8, [.nilf], none⟩ := by rfl
theorem TryztiAt463 : Tryzti.get 463 = some ⟨.func, false, 1, 8, [.nilf], none⟩ := by rfl
theorem TryztiAt464 : Tryzti.get 464 = some ⟨.ptr, false, 1, 8, [.nilp], none⟩ := by rfl
theorem TryztiAt465 : Tryzti.get 465 = some ⟨.func, false, 1, 8, [.nilf], none⟩ := by rfl
theorem TryztiAt466 : Tryzti.get 466 = some ⟨.func, false, 1, 8, [.nilf], none⟩ := by rfl
theorem TryztiAt467 : Tryzti.get 467 = some ⟨.func, false, 1, 8, [.nilf], none⟩ := by rfl
theorem TryztiAt468 : Tryzti.get 468 = some ⟨.func, false, 1, 8, [.nilf], none⟩ := by rfl
theorem TryztiAt469 : Tryzti.get 469 = some ⟨.func, false, 1, 8, [.nilf], none⟩ := by rfl
theorem TryztiAt471 : Tryzti.get 471 = some ⟨.func, false, 1, 8, [.nilf], none⟩ := by rfl
theorem TryztiAt472 : Tryzti.get 472 = some ⟨.func, false, 1, 8, [.nilf], none⟩ := by rfl
theorem TryztiAt473 : Tryzti.get 473 = some ⟨.func, false, 1, 8, [.nilf], none⟩ := by rfl
theorem TryztiAt474 : Tryzti.get 474 = some ⟨.func, false, 1, 8, [.nilf], none⟩ := by rfl
theorem TryztiAt475 : Tryzti.get 475 = some ⟨.func, false, 1, 8, [.nilf], none⟩ := by rfl
theorem TryztiAt476 : Tryzti.get 476 = some ⟨.func, false, 1, 8, [.nilf], none⟩ := by rfl
theorem TryztiAt477 : Tryzti.get 477 = some ⟨.func, false, 1, 8, [.nilf], none⟩ := by rfl
theorem TryztiAt478 : Tryzti.get 478 = some ⟨.func, false, 1, 8, [.nilf], none⟩ := by rfl
theorem TryztiAt479 : Tryzti.get 479 = some ⟨.func, false, 1, 8, [.nilf], none⟩ := by rfl
theorem TryztiAt480 : Tryzti.get 480 = some ⟨.func, false, 1, 8, [.nilf], none⟩ := by rfl
theorem TryztiAt481 : Tryzti.get 481 = some ⟨.func, false, 1, 8, [.nilf], none⟩ := by rfl
theorem TryztiAt482 : Tryzti.get 482 = some ⟨.func, false, 1, 8, [.nilf], none⟩ := by rfl
theorem TryztiAt483 : Tryzti.get 483 = some ⟨.func, false, 1, 8, [.nilf], none⟩ := by rfl
theorem TryztiAt484 : Tryzti.get 484 = some ⟨.func, false, 1, 8, [.nilf], none⟩ := by rfl
theorem TryztiAt485 : Tryzti.get 485 = some ⟨.func, false, 1, 8, [.nilf], none⟩ := by rfl
theorem TryztiAt486 : Tryzti.get 486 = some ⟨.func, false, 1, 8, [.nilf], none⟩ := by rfl
theorem TryztiAt487 : Tryzti.get 487 = some ⟨.array 5 486, true, 5, 40, [.nilf, .nilf, .nilf, .nilf, .nilf], none⟩ := by rfl
theorem TryztiAt488 : Tryzti.get 488 = some ⟨.func, false, 1, 8, [.nilf], none⟩ := by rfl
theorem TryztiAt489 : Tryzti.get 489 = some ⟨.func, false, 1, 8, [.nilf], none⟩ := by rfl
theorem TryztiAt491 : Tryzti.get 491 = some ⟨.func, false, 1, 8, [.nilf], none⟩ := by rfl
theorem TryztiAt492 : Tryzti.get 492 = some ⟨.array 256 5, true, 256, 256, [.int .u8 (0), .int .u8 (0), .int .u8 (0), .int .u8 (0), .int .u8 (0), .int .u8 (0), .int .u8 (0), .int .u8 (0), .int .u8 (0), .int .u8 (0), .int .u8 (0), .int .u8 (0), .int .u8 (0), .int .u8 (0), .int .u8 (0), .int .u8 (0), .int .u8 (0), .int .u8 (0), .int .u8 (0), .int .u8 (0), .int .u8 (0), .int .u8 (0), .int .u8 (0), .int .u8 (0), .int .u8 (0), .int .u8 (0), .int .u8 (0), .int .u8 (0), .int .u8 (0), .int .u8 (0), .int .u8 (0), .int .u8 (0), .int .u8 (0), .int .u8 (0), .int .u8 (0), .int .u8 (0), .int .u8 (0), .int .u8 (0), .int .u8 (0), .int .u8 (0), .int .u8 (0), .int .u8 (0), .int .u8 (0), .int .u8 (0), .int .u8 (0), .int .u8 (0), .int .u8 (0), .int .u8 (0), .int .u8 (0), .int .u8 (0), .int .u8 (0), .int .u8 (0), .int .u8 (0), .int .u8 (0), .int .u8 (0), .int .u8 (0), .int .u8 (0), .int .u8 (0), .int .u8 (0), .int .u8 (0), .int .u8 (0), .int .u8 (0), .int .u8 (0), .int .u8 (0), .int .u8 (0), .int .u8 (0), .int .u8 (0), .int .u8 (0), .int .u8 (0), .int .u8 (0), .int .u8 (0), .int .u8 (0), .int .u8 (0), .int .u8 (0), .int .u8 (0), .int .u8 (0), .int .u8 (0), .int .u8 (0), .int .u8 (0), .int .u8 (0), .int .u8 (0), .int .u8 (0), .int .u8 (0), .int .u8 (0), .int .u8 (0), .int .u8 (0), .int .u8 (0), .int .u8 (0), .int .u8 (0), .int .u8 (0), .int .u8 (0), .int .u8 (0), .int .u8 (0), .int .u8 (0), .int .u8 (0), .int .u8 (0), .int .u8 (0), .int .u8 (0), .int .u8 (0), .int .u8 (0), .int .u8 (0), .int .u8 (0), .int .u8 (0), .int .u8 (0), .int .u8 (0), .int .u8 (0), .int .u8 (0), .int .u8 (0), .int .u8 (0), .int .u8 (0), .int .u8 (0), .int .u8 (0), .int .u8 (0), .int .u8 (0), .int .u8 (0), .int .u8 (0), .int .u8 (0), .int .u8 (0), .int .u8 (0), .int .u8 (0), .int .u8 (0), .int .u8 (0), .int .u8 (0), .int .u8 (0), .int .u8 (0), .int .u8 (0), .int .u8 (0), .int .u8 (0), .int .u8 (0), .int .u8 (0), .int .u8 (0), .int .u8 (0), .int .u8 (0), .int .u8 (0), .int .u8 (0), .int .u8 (0), .int .u8 (0), .int .u8 (0), .int .u8 (0), .int .u8 (0), .int .u8 (0), .int .u8 (0), .int .u8 (0), .int .u8 (0), .int .u8 (0), .int .u8 (0), .int .u8 (0), .int .u8 (0), .int .u8 (0), .int .u8 (0), .int .u8 (0), .int .u8 (0), .int .u8 (0), .int .u8 (0), .int .u8 (0), .int .u8 (0), .int .u8 (0), .int .u8 (0), .int .u8 (0), .int .u8 (0), .int .u8 (0), .int .u8 (0), .int .u8 (0), .int .u8 (0), .int .u8 (0), .int .u8 (0), .int .u8 (0), .int .u8 (0), .int .u8 (0), .int .u8 (0), .int .u8 (0), .int .u8 (0), .int .u8 (0), .int .u8 (0), .int .u8 (0), .int .u8 (0), .int .u8 (0), .int .u8 (0), .int .u8 (0), .int .u8 (0), .int .u8 (0), .int .u8 (0), .int .u8 (0), .int .u8 (0), .int .u8 (0), .int .u8 (0), .int .u8 (0), .int .u8 (0), .int .u8 (0), .int .u8 (0), .int .u8 (0), .int .u8 (0), .int .u8 (0), .int .u8 (0), .int .u8 (0), .int .u8 (0), .int .u8 (0), .int .u8 (0), .int .u8 (0), .int .u8 (0), .int .u8 (0), .int .u8 (0), .int .u8 (0), .int .u8 (0), .int .u8 (0), .int .u8 (0), .int .u8 (0), .int .u8 (0), .int .u8 (0), .int .u8 (0), .int .u8 (0), .int .u8 (0), .int .u8 (0), .int .u8 (0), .int .u8 (0), .int .u8 (0), .int .u8 (0), .int .u8 (0), .int .u8 (0), .int .u8 (0), .int .u8 (0), .int .u8 (0), .int .u8 (0), .int .u8 (0), .int .u8 (0), .int .u8 (0), .int .u8 (0), .int .u8 (0), .int .u8 (0), .int .u8 (0), .int .u8 (0), .int .u8 (0), .int .u8 (0), .int .u8 (0), .int .u8 (0), .int .u8 (0), .int .u8 (0), .int .u8 (0), .int .u8 (0), .int .u8 (0), .int .u8 (0), .int .u8 (0), .int .u8 (0), .int .u8 (0), .int .u8 (0), .int .u8 (0), .int .u8 (0), .int .u8 (0), .int .u8 (0), .int .u8 (0), .int .u8 (0), .int .u8 (0), .int .u8 (0), .int .u8 (0), .int .u8 (0), .int .u8 (0)], some [.int .u8, .int .u8, .int .u8, .int .u8, .int .u8, .int .u8, .int .u8, .int .u8, .int .u8, .int .u8, .int .u8, .int .u8, .int .u8, .int .u8, .int .u8, .int .u8, .int .u8, .int .u8, .int .u8, .int .u8, .int .u8, .int .u8, .int .u8, .int .u8, .int .u8, .int .u8, .int .u8, .int .u8, .int .u8, .int .u8, .int .u8, .int .u8, .int .u8, .int .u8, .int .u8, .int .u8, .int .u8, .int .u8, .int .u8, .int .u8, .int .u8, .int .u8, .int .u8, .int .u8, .int .u8, .int .u8, .int .u8, .int .u8, .int .u8, .int .u8, .int .u8, .int .u8, .int .u8, .int .u8, .int .u8, .int .u8, .int .u8, .int .u8, .int .u8, .int .u8, .int .u8, .int .u8, .int .u8, .int .u8, .int .u8, .int .u8, .int .u8, .int .u8, .int .u8, .int .u8, .int .u8, .int .u8, .int .u8, .int .u8, .int .u8, .int .u8, .int .u8, .int .u8, .int .u8, .int .u8, .int .u8, .int .u8, .int .u8, .int .u8, .int .u8, .int .u8, .int .u8, .int .u8, .int .u8, .int .u8, .int .u8, .int .u8, .int .u8, .int .u8, .int .u8, .int .u8, .int .u8, .int .u8, .int .u8, .int .u8, .int .u8, .int .u8, .int .u8, .int .u8, .int .u8, .int .u8, .int .u8, .int .u8, .int .u8, .int .u8, .int .u8, .int .u8, .int .u8, .int .u8, .int .u8, .int .u8, .int .u8, .int .u8, .int .u8, .int .u8, .int .u8, .int .u8, .int .u8, .int .u8, .int .u8, .int .u8, .int .u8, .int .u8, .int .u8, .int .u8, .int .u8, .int .u8, .int .u8, .int .u8, .int .u8, .int .u8, .int .u8, .int .u8, .int .u8, .int .u8, .int .u8, .int .u8, .int .u8, .int .u8, .int .u8, .int .u8, .int .u8, .int .u8, .int .u8, .int .u8, .int .u8, .int .u8, .int .u8, .int .u8, .int .u8, .int .u8, .int .u8, .int .u8, .int .u8, .int .u8, .int .u8, .int .u8, .int .u8, .int .u8, .int .u8, .int .u8, .int .u8, .int .u8, .int .u8, .int .u8, .int .u8, .int .u8, .int .u8, .int .u8, .int .u8, .int .u8, .int .u8, .int .u8, .int .u8, .int .u8, .int .u8, .int .u8, .int .u8, .int .u8, .int .u8, .int .u8, .int .u8, .int .u8, .int .u8, .int .u8, .int .u8, .int .u8, .int .u8, .int .u8, .int .u8, .int .u8, .int .u8, .int .u8, .int .u8, .int .u8, .int .u8, .int .u8, .int .u8, .int .u8, .int .u8, .int .u8, .int .u8, .int .u8, .int .u8, .int .u8, .int .u8, .int .u8, .int .u8, .int .u8, .int .u8, .int .u8, .int .u8, .int .u8, .int .u8, .int .u8, .int .u8, .int .u8, .int .u8, .int .u8, .int .u8, .int .u8, .int .u8, .int .u8, .int .u8, .int .u8, .int .u8, .int .u8, .int .u8, .int .u8, .int .u8, .int .u8, .int .u8, .int .u8, .int .u8, .int .u8, .int .u8, .int .u8, .int .u8, .int .u8, .int .u8, .int .u8, .int .u8, .int .u8, .int .u8, .int .u8, .int .u8, .int .u8, .int .u8, .int .u8, .int .u8, .int .u8]⟩ := by rfl
theorem TryztiAt493 : Tryzti.get 493 = some ⟨.struct [(0, 5), (1, 5)], true, 2, 2, [.int .u8 (0), .int .u8 (0)], some [.int .u8, .int .u8]⟩ := by rfl
theorem TryztiAt494 : Tryzti.get 494 = some ⟨.struct [(0, 5), (1, 5)], true, 2, 2, [.int .u8 (0), .int .u8 (0)], some [.int .u8, .int .u8]⟩ := by rfl
theorem TryztiAt495 : Tryzti.get 495 = some ⟨.array 16 494, true, 32, 32, [.int .u8 (0), .int .u8 (0), .int .u8 (0), .int .u8 (0), .int .u8 (0), .int .u8 (0), .int .u8 (0), .int .u8 (0), .int .u8 (0), .int .u8 (0), .int .u8 (0), .int .u8 (0), .int .u8 (0), .int .u8 (0), .int .u8 (0), .int .u8 (0), .int .u8 (0), .int .u8 (0), .int .u8 (0), .int .u8 (0), .int .u8 (0), .int .u8 (0), .int .u8 (0), .int .u8 (0), .int .u8 (0), .int .u8 (0), .int .u8 (0), .int .u8 (0), .int .u8 (0), .int .u8 (0), .int .u8 (0), .int .u8 (0)], none⟩ := by rfl
theorem TryztiAt496 : Tryzti.get 496 = some ⟨.func, false, 1, 8, [.nilf], none⟩ := by rfl
theorem TryztiAt497 : Tryzti.get 497 = some ⟨.func, false, 1, 8, [.nilf], none⟩ := by rfl
theorem TryztiAt499 : Tryzti.get 499 = some ⟨.func, false, 1, 8, [.nilf], none⟩ := by rfl
theorem TryztiAt500 : Tryzti.get 500 = some ⟨.func, false, 1, 8, [.nilf], none⟩ := by rfl
theorem TryztiAt501 : Tryzti.get 501 = some ⟨.func, false, 1, 8, [.nilf], none⟩ := by rfl
theorem TryztiAt502 : Tryzti.get 502 = some ⟨.func, false, 1, 8, [.nilf], none⟩ := by rfl
theorem TryztiAt503 : Tryzti.get 503 = some ⟨.struct [(0, 17), (1, 17), (2, 17), (3, 9)], true, 4, 40, [.nilp, .nilp, .nilp, .str []], none⟩ := by rfl
theorem TryztiAt504 : Tryzti.get 504 = some ⟨.struct [(0, 17), (1, 17), (2, 17), (3, 9)], true, 4, 40, [.nilp, .nilp, .nilp, .str []], none⟩ := by rfl
theorem TryztiAt505 : Tryzti.get 505 = some ⟨.array 0 16, true, 0, 0, [], none⟩ := by rfl
theorem TryztiAt506 : Tryzti.get 506 = some ⟨.other, true, 0, 0, [], none⟩ := by rfl
theorem TryztiAt507 : Tryzti.get 507 = some ⟨.other, true, 0, 0, [], none⟩ := by rfl
theorem TryztiAt508 : Tryzti.get 508 = some ⟨.int .u8, false, 1, 1, [.int .u8 (0)], none⟩ := by rfl
theorem TryztiAt509 : Tryzti.get 509 = some ⟨.int .u8, false, 1, 1, [.int .u8 (0)], none⟩ := by rfl
theorem TryztiAt510 : Tryzti.get 510 = some ⟨.func, false, 1, 8, [.nilf], none⟩ := by rfl
theorem TryztiAt511 : Tryzti.get 511 = some ⟨.int .i32, false, 1, 4, [.int .i32 (0)], none⟩ := by rfl
theorem TryztiAt512 : Tryzti.get 512 = some ⟨.int .i32, false, 1, 4, [.int .i32 (0)], none⟩ := by rfl
theorem TryztiAt513 : Tryzti.get 513 = some ⟨.struct [(0, 12), (1, 12), (2, 343), (3, 508), (4, 5), (5, 5), (6, 509), (7, 510), (8, 349), (9, 511), (10, 512)], true, 11, 48, [.int .u64 (0), .int .u64 (0), .int .u32 (0), .int .u8 (0), .int .u8 (0), .int .u8 (0), .int .u8 (0), .nilf, .nilp, .int .i32 (0), .int .i32 (0)], none⟩ := by rfl
theorem TryztiAt514 : Tryzti.get 514 = some ⟨.struct [(0, 12), (1, 12), (2, 343), (3, 508), (4, 5), (5, 5), (6, 509), (7, 510), (8, 349), (9, 511), (10, 512)], true, 11, 48, [.int .u64 (0), .int .u64 (0), .int .u32 (0), .int .u8 (0), .int .u8 (0), .int .u8 (0), .int .u8 (0), .nilf, .nilp, .int .i32 (0), .int .i32 (0)], none⟩ := by rfl
theorem TryztiAt515 : Tryzti.get 515 = some ⟨.func, false, 1, 8, [.nilf], none⟩ := by rfl
theorem TryzfiAt2 : Tryzfi.get 2 = some Tryzfi2 := by rfl
theorem Tryzjoin2 : Tryzfi2.join = false := rfl
theorem Tryzres2 : Tryzfi2.results = Tryz.f2.results.toList := rfl
theorem Tryznt2 : Tryzfi2.ntmps = Tryz.f2.ntmps := rfl
theorem Tryzbody2 : Tryzfi2.body = (Tryz.f2.body).getD .skip := rfl
theorem TryzfiAt3 : Tryzfi.get 3 = some Tryzfi3 := by rfl
theorem Tryzjoin3 : Tryzfi3.join = false := rfl
theorem Tryzres3 : Tryzfi3.results = Tryz.f3.results.toList := rfl
theorem Tryznt3 : Tryzfi3.ntmps = Tryz.f3.ntmps := rfl
theorem Tryzbody3 : Tryzfi3.body = (Tryz.f3.body).getD .skip := rfl
theorem TryzfiAt4 : Tryzfi.get 4 = some Tryzfi4 := by rfl
theorem Tryzjoin4 : Tryzfi4.join = false := rfl
theorem Tryzres4 : Tryzfi4.results = Tryz.f4.results.toList := rfl
theorem Tryznt4 : Tryzfi4.ntmps = Tryz.f4.ntmps := rfl
theorem Tryzbody4 : Tryzfi4.body = (Tryz.f4.body).getD .skip := rfl
theorem TryzfiAt5 : Tryzfi.get 5 = some Tryzfi5 := by rfl
theorem Tryzjoin5 : Tryzfi5.join = false := rfl
theorem Tryzres5 : Tryzfi5.results = Tryz.f5.results.toList := rfl
theorem Tryznt5 : Tryzfi5.ntmps = Tryz.f5.ntmps := rfl
theorem Tryzbody5 : Tryzfi5.body = (Tryz.f5.body).getD .skip := rfl
theorem TryzfiAt6 : Tryzfi.get 6 = some Tryzfi6 := by rfl
theorem Tryzjoin6 : Tryzfi6.join = false := rfl
theorem Tryzres6 : Tryzfi6.results = Tryz.f6.results.toList := rfl
theorem Tryznt6 : Tryzfi6.ntmps = Tryz.f6.ntmps := rfl
theorem Tryzbody6 : Tryzfi6.body = (Tryz.f6.body).getD .skip := rfl
theorem TryzfiAt7 : Tryzfi.get 7 = some Tryzfi7 := by rfl
theorem Tryzjoin7 : Tryzfi7.join = false := rfl
theorem Tryzres7 : Tryzfi7.results = Tryz.f7.results.toList := rfl
theorem Tryznt7 : Tryzfi7.ntmps = Tryz.f7.ntmps := rfl
theorem Tryzbody7 : Tryzfi7.body = (Tryz.f7.body).getD .skip := rfl
theorem TryzfiAt8 : Tryzfi.get 8 = some Tryzfi8 := by rfl
theorem Tryzjoin8 : Tryzfi8.join = false := rfl
theorem Tryzres8 : Tryzfi8.results = Tryz.f8.results.toList := rfl
theorem Tryznt8 : Tryzfi8.ntmps = Tryz.f8.ntmps := rfl
theorem Tryzbody8 : Tryzfi8.body = (Tryz.f8.body).getD .skip := rfl
theorem TryzfiAt9 : Tryzfi.get 9 = some Tryzfi9 := by rfl
theorem Tryzjoin9 : Tryzfi9.join = false := rfl
theorem Tryzres9 : Tryzfi9.results = Tryz.f9.results.toList := rfl
theorem Tryznt9 : Tryzfi9.ntmps = Tryz.f9.ntmps := rfl
theorem Tryzbody9 : Tryzfi9.body = (Tryz.f9.body).getD .skip := rfl
theorem TryzfiAt10 : Tryzfi.get 10 = some Tryzfi10 := by rfl
theorem Tryzjoin10 : Tryzfi10.join = false := rfl
theorem Tryzres10 : Tryzfi10.results = Tryz.f10.results.toList := rfl
theorem Tryznt10 : Tryzfi10.ntmps = Tryz.f10.ntmps := rfl
theorem Tryzbody10 : Tryzfi10.body = (Tryz.f10.body).getD .skip := rfl
theorem TryzfiAt11 : Tryzfi.get 11 = some Tryzfi11 := by rfl
theorem Tryzjoin11 : Tryzfi11.join = false := rfl
theorem Tryzres11 : Tryzfi11.results = Tryz.f11.results.toList := rfl
theorem Tryznt11 : Tryzfi11.ntmps = Tryz.f11.ntmps := rfl
theorem Tryzbody11 : Tryzfi11.body = (Tryz.f11.body).getD .skip := rfl
theorem TryzfiAt12 : Tryzfi.get 12 = some Tryzfi12 := by rfl
theorem Tryzjoin12 : Tryzfi12.join = false := rfl
theorem Tryzres12 : Tryzfi12.results = Tryz.f12.results.toList := rfl
theorem Tryznt12 : Tryzfi12.ntmps = Tryz.f12.ntmps := rfl
theorem Tryzbody12 : Tryzfi12.body = (Tryz.f12.body).getD .skip := rfl
theorem TryzfiAt13 : Tryzfi.get 13 = some Tryzfi13 := by rfl
theorem Tryzjoin13 : Tryzfi13.join = false := rfl
theorem Tryzres13 : Tryzfi13.results = Tryz.f13.results.toList := rfl
theorem Tryznt13 : Tryzfi13.ntmps = Tryz.f13.ntmps := rfl
theorem Tryzbody13 : Tryzfi13.body = (Tryz.f13.body).getD .skip := rfl
theorem TryzfiAt14 : Tryzfi.get 14 = some Tryzfi14 := by rfl
theorem Tryzjoin14 : Tryzfi14.join = false := rfl
theorem Tryzres14 : Tryzfi14.results = Tryz.f14.results.toList := rfl
theorem Tryznt14 : Tryzfi14.ntmps = Tryz.f14.ntmps := rfl
theorem Tryzbody14 : Tryzfi14.body = (Tryz.f14.body).getD .skip := rfl
theorem TryzfiAt15 : Tryzfi.get 15 = some Tryzfi15 := by rfl
theorem Tryzjoin15 : Tryzfi15.join = false := rfl
theorem Tryzres15 : Tryzfi15.results = Tryz.f15.results.toList := rfl
theorem Tryznt15 : Tryzfi15.ntmps = Tryz.f15.ntmps := rfl
theorem Tryzbody15 : Tryzfi15.body = (Tryz.f15.body).getD .skip := rfl
theorem TryzfiAt16 : Tryzfi.get 16 = some Tryzfi16 := by rfl
theorem Tryzjoin16 : Tryzfi16.join = false := rfl
theorem Tryzres16 : Tryzfi16.results = Tryz.f16.results.toList := rfl
theorem Tryznt16 : Tryzfi16.ntmps = Tryz.f16.ntmps := rfl
theorem Tryzbody16 : Tryzfi16.body = (Tryz.f16.body).getD .skip := rfl
theorem TryzfiAt17 : Tryzfi.get 17 = some Tryzfi17 := by rfl
theorem Tryzjoin17 : Tryzfi17.join = false := rfl
theorem Tryzres17 : Tryzfi17.results = Tryz.f17.results.toList := rfl
theorem Tryznt17 : Tryzfi17.ntmps = Tryz.f17.ntmps := rfl
theorem Tryzbody17 : Tryzfi17.body = (Tryz.f17.body).getD .skip := rfl
theorem TryzfiAt18 : Tryzfi.get 18 = some Tryzfi18 := by rfl
theorem Tryzjoin18 : Tryzfi18.join = false := rfl
theorem Tryzres18 : Tryzfi18.results = Tryz.f18.results.toList := rfl
theorem Tryznt18 : Tryzfi18.ntmps = Tryz.f18.ntmps := rfl
theorem Tryzbody18 : Tryzfi18.body = (Tryz.f18.body).getD .skip := rfl
theorem TryzfiAt19 : Tryzfi.get 19 = some Tryzfi19 := by rfl
theorem Tryzjoin19 : Tryzfi19.join = false := rfl
theorem Tryzres19 : Tryzfi19.results = Tryz.f19.results.toList := rfl
theorem Tryznt19 : Tryzfi19.ntmps = Tryz.f19.ntmps := rfl
theorem Tryzbody19 : Tryzfi19.body = (Tryz.f19.body).getD .skip := rfl
theorem TryzfiAt20 : Tryzfi.get 20 = some Tryzfi20 := by rfl
theorem Tryzjoin20 : Tryzfi20.join = false := rfl
theorem Tryzres20 : Tryzfi20.results = Tryz.f20.results.toList := rfl
theorem Tryznt20 : Tryzfi20.ntmps = Tryz.f20.ntmps := rfl
theorem Tryzbody20 : Tryzfi20.body = (Tryz.f20.body).getD .skip := rfl
theorem TryzfiAt21 : Tryzfi.get 21 = some Tryzfi21 := by rfl
theorem Tryzjoin21 : Tryzfi21.join = false := rfl
theorem Tryzres21 : Tryzfi21.results = Tryz.f21.results.toList := rfl
theorem Tryznt21 : Tryzfi21.ntmps = Tryz.f21.ntmps := rfl
theorem Tryzbody21 : Tryzfi21.body = (Tryz.f21.body).getD .skip := rfl
theorem TryzfiAt22 : Tryzfi.get 22 = some Tryzfi22 := by rfl
theorem Tryzjoin22 : Tryzfi22.join = false := rfl
theorem Tryzres22 : Tryzfi22.results = Tryz.f22.results.toList := rfl
theorem Tryznt22 : Tryzfi22.ntmps = Tryz.f22.ntmps := rfl
theorem Tryzbody22 : Tryzfi22.body = (Tryz.f22.body).getD .skip := rfl
theorem TryzfiAt23 : Tryzfi.get 23 = some Tryzfi23 := by rfl
theorem Tryzjoin23 : Tryzfi23.join = false := rfl
theorem Tryzres23 : Tryzfi23.results = Tryz.f23.results.toList := rfl
theorem Tryznt23 : Tryzfi23.ntmps = Tryz.f23.ntmps := rfl
theorem Tryzbody23 : Tryzfi23.body = (Tryz.f23.body).getD .skip := rfl
theorem TryzfiAt24 : Tryzfi.get 24 = some Tryzfi24 := by rfl
theorem Tryzjoin24 : Tryzfi24.join = false := rfl
theorem Tryzres24 : Tryzfi24.results = Tryz.f24.results.toList := rfl
theorem Tryznt24 : Tryzfi24.ntmps = Tryz.f24.ntmps := rfl
theorem Tryzbody24 : Tryzfi24.body = (Tryz.f24.body).getD .skip := rfl
theorem TryzfiAt25 : Tryzfi.get 25 = some Tryzfi25 := by rfl
theorem Tryzjoin25 : Tryzfi25.join = false := rfl
theorem Tryzres25 : Tryzfi25.results = Tryz.f25.results.toList := rfl
theorem Tryznt25 : Tryzfi25.ntmps = Tryz.f25.ntmps := rfl
theorem Tryzbody25 : Tryzfi25.body = (Tryz.f25.body).getD .skip := rfl
theorem TryzfiAt26 : Tryzfi.get 26 = some Tryzfi26 := by rfl
theorem Tryzjoin26 : Tryzfi26.join = false := rfl
theorem Tryzres26 : Tryzfi26.results = Tryz.f26.results.toList := rfl
theorem Tryznt26 : Tryzfi26.ntmps = Tryz.f26.ntmps := rfl
theorem Tryzbody26 : Tryzfi26.body = (Tryz.f26.body).getD .skip := rfl
theorem TryzfiAt27 : Tryzfi.get 27 = some Tryzfi27 := by rfl
theorem Tryzjoin27 : Tryzfi27.join = false := rfl
theorem Tryzres27 : Tryzfi27.results = Tryz.f27.results.toList := rfl
theorem Tryznt27 : Tryzfi27.ntmps = Tryz.f27.ntmps := rfl
theorem Tryzbody27 : Tryzfi27.body = (Tryz.f27.body).getD .skip := rfl
theorem TryzfiAt28 : Tryzfi.get 28 = some Tryzfi28 := by rfl
theorem Tryzjoin28 : Tryzfi28.join = false := rfl
theorem Tryzres28 : Tryzfi28.results = Tryz.f28.results.toList := rfl
theorem Tryznt28 : Tryzfi28.ntmps = Tryz.f28.ntmps := rfl
theorem Tryzbody28 : Tryzfi28.body = (Tryz.f28.body).getD .skip := rfl
theorem TryzfiAt29 : Tryzfi.get 29 = some Tryzfi29 := by rfl
theorem Tryzjoin29 : Tryzfi29.join = false := rfl
theorem Tryzres29 : Tryzfi29.results = Tryz.f29.results.toList := rfl
theorem Tryznt29 : Tryzfi29.ntmps = Tryz.f29.ntmps := rfl
theorem Tryzbody29 : Tryzfi29.body = (Tryz.f29.body).getD .skip := rfl
theorem TryzfiAt30 : Tryzfi.get 30 = some Tryzfi30 := by rfl
theorem Tryzjoin30 : Tryzfi30.join = false := rfl
theorem Tryzres30 : Tryzfi30.results = Tryz.f30.results.toList := rfl
theorem Tryznt30 : Tryzfi30.ntmps = Tryz.f30.ntmps := rfl
theorem Tryzbody30 : Tryzfi30.body = (Tryz.f30.body).getD .skip := rfl
theorem TryzfiAt31 : Tryzfi.get 31 = some Tryzfi31 := by rfl
theorem Tryzjoin31 : Tryzfi31.join = false := rfl
theorem Tryzres31 : Tryzfi31.results = Tryz.f31.results.toList := rfl
theorem Tryznt31 : Tryzfi31.ntmps = Tryz.f31.ntmps := rfl
theorem Tryzbody31 : Tryzfi31.body = (Tryz.f31.body).getD .skip := rfl
theorem TryzfiAt32 : Tryzfi.get 32 = some Tryzfi32 := by rfl
theorem Tryzjoin32 : Tryzfi32.join = false := rfl
theorem Tryzres32 : Tryzfi32.results = Tryz.f32.results.toList := rfl
theorem Tryznt32 : Tryzfi32.ntmps = Tryz.f32.ntmps := rfl
theorem Tryzbody32 : Tryzfi32.body = (Tryz.f32.body).getD .skip := rfl
theorem TryzfiAt33 : Tryzfi.get 33 = some Tryzfi33 := by rfl
theorem Tryzjoin33 : Tryzfi33.join = false := rfl
theorem Tryzres33 : Tryzfi33.results = Tryz.f33.results.toList := rfl
theorem Tryznt33 : Tryzfi33.ntmps = Tryz.f33.ntmps := rfl
theorem Tryzbody33 : Tryzfi33.body = (Tryz.f33.body).getD .skip := rfl
theorem TryzfiAt34 : Tryzfi.get 34 = some Tryzfi34 := by rfl
theorem Tryzjoin34 : Tryzfi34.join = false := rfl
theorem Tryzres34 : Tryzfi34.results = Tryz.f34.results.toList := rfl
theorem Tryznt34 : Tryzfi34.ntmps = Tryz.f34.ntmps := rfl
theorem Tryzbody34 : Tryzfi34.body = (Tryz.f34.body).getD .skip := rfl
theorem TryzfiAt35 : Tryzfi.get 35 = some Tryzfi35 := by rfl
theorem Tryzjoin35 : Tryzfi35.join = false := rfl
theorem Tryzres35 : Tryzfi35.results = Tryz.f35.results.toList := rfl
theorem Tryznt35 : Tryzfi35.ntmps = Tryz.f35.ntmps := rfl
theorem Tryzbody35 : Tryzfi35.body = (Tryz.f35.body).getD .skip := rfl
theorem TryzfiAt36 : Tryzfi.get 36 = some Tryzfi36 := by rfl
theorem Tryzjoin36 : Tryzfi36.join = false := rfl
theorem Tryzres36 : Tryzfi36.results = Tryz.f36.results.toList := rfl
theorem Tryznt36 : Tryzfi36.ntmps = Tryz.f36.ntmps := rfl
theorem Tryzbody36 : Tryzfi36.body = (Tryz.f36.body).getD .skip := rfl
theorem TryzfiAt37 : Tryzfi.get 37 = some Tryzfi37 := by rfl
theorem Tryzjoin37 : Tryzfi37.join = false := rfl
theorem Tryzres37 : Tryzfi37.results = Tryz.f37.results.toList := rfl
theorem Tryznt37 : Tryzfi37.ntmps = Tryz.f37.ntmps := rfl
theorem Tryzbody37 : Tryzfi37.body = (Tryz.f37.body).getD .skip := rfl
theorem TryzfiAt38 : Tryzfi.get 38 = some Tryzfi38 := by rfl
theorem Tryzjoin38 : Tryzfi38.join = false := rfl
theorem Tryzres38 : Tryzfi38.results = Tryz.f38.results.toList := rfl
theorem Tryznt38 : Tryzfi38.ntmps = Tryz.f38.ntmps := rfl
theorem Tryzbody38 : Tryzfi38.body = (Tryz.f38.body).getD .skip := rfl
theorem TryzfiAt39 : Tryzfi.get 39 = some Tryzfi39 := by rfl
theorem Tryzjoin39 : Tryzfi39.join = false := rfl
theorem Tryzres39 : Tryzfi39.results = Tryz.f39.results.toList := rfl
theorem Tryznt39 : Tryzfi39.ntmps = Tryz.f39.ntmps := rfl
theorem Tryzbody39 : Tryzfi39.body = (Tryz.f39.body).getD .skip := rfl
theorem TryzfiAt40 : Tryzfi.get 40 = some Tryzfi40 := by rfl
theorem Tryzjoin40 : Tryzfi40.join = false := rfl
theorem Tryzres40 : Tryzfi40.results = Tryz.f40.results.toList := rfl
theorem Tryznt40 : Tryzfi40.ntmps = Tryz.f40.ntmps := rfl
theorem Tryzbody40 : Tryzfi40.body = (Tryz.f40.body).getD .skip := rfl
theorem TryzfiAt41 : Tryzfi.get 41 = some Tryzfi41 := by rfl
theorem Tryzjoin41 : Tryzfi41.join = false := rfl
theorem Tryzres41 : Tryzfi41.results = Tryz.f41.results.toList := rfl
theorem Tryznt41 : Tryzfi41.ntmps = Tryz.f41.ntmps := rfl
theorem Tryzbody41 : Tryzfi41.body = (Tryz.f41.body).getD .skip := rfl
theorem TryzfiAt42 : Tryzfi.get 42 = some Tryzfi42 := by rfl
theorem Tryzjoin42 : Tryzfi42.join = false := rfl
theorem Tryzres42 : Tryzfi42.results = Tryz.f42.results.toList := rfl
theorem Tryznt42 : Tryzfi42.ntmps = Tryz.f42.ntmps := rfl
theorem Tryzbody42 : Tryzfi42.body = (Tryz.f42.body).getD .skip := rfl
theorem TryzfiAt43 : Tryzfi.get 43 = some Tryzfi43 := by rfl
theorem Tryzjoin43 : Tryzfi43.join = false := rfl
theorem Tryzres43 : Tryzfi43.results = Tryz.f43.results.toList := rfl
theorem Tryznt43 : Tryzfi43.ntmps = Tryz.f43.ntmps := rfl
theorem Tryzbody43 : Tryzfi43.body = (Tryz.f43.body).getD .skip := rfl
theorem TryzfiAt44 : Tryzfi.get 44 = some Tryzfi44 := by rfl
theorem Tryzjoin44 : Tryzfi44.join = false := rfl
theorem Tryzres44 : Tryzfi44.results = Tryz.f44.results.toList := rfl
theorem Tryznt44 : Tryzfi44.ntmps = Tryz.f44.ntmps := rfl
theorem Tryzbody44 : Tryzfi44.body = (Tryz.f44.body).getD .skip := rfl
theorem TryzfiAt45 : Tryzfi.get 45 = some Tryzfi45 := by rfl
theorem Tryzjoin45 : Tryzfi45.join = false := rfl
theorem Tryzres45 : Tryzfi45.results = Tryz.f45.results.toList := rfl
theorem Tryznt45 : Tryzfi45.ntmps = Tryz.f45.ntmps := rfl
theorem Tryzbody45 : Tryzfi45.body = (Tryz.f45.body).getD .skip := rfl
theorem TryzfiAt46 : Tryzfi.get 46 = some Tryzfi46 := by rfl
theorem Tryzjoin46 : Tryzfi46.join = false := rfl
theorem Tryzres46 : Tryzfi46.results = Tryz.f46.results.toList := rfl
theorem Tryznt46 : Tryzfi46.ntmps = Tryz.f46.ntmps := rfl
theorem Tryzbody46 : Tryzfi46.body = (Tryz.f46.body).getD .skip := rfl
theorem TryzfiAt47 : Tryzfi.get 47 = some Tryzfi47 := by rfl
theorem Tryzjoin47 : Tryzfi47.join = false := rfl
theorem Tryzres47 : Tryzfi47.results = Tryz.f47.results.toList := rfl
theorem Tryznt47 : Tryzfi47.ntmps = Tryz.f47.ntmps := rfl
theorem Tryzbody47 : Tryzfi47.body = (Tryz.f47.body).getD .skip := rfl
theorem TryzfiAt48 : Tryzfi.get 48 = some Tryzfi48 := by rfl
theorem Tryzjoin48 : Tryzfi48.join = false := rfl
theorem Tryzres48 : Tryzfi48.results = Tryz.f48.results.toList := rfl
theorem Tryznt48 : Tryzfi48.ntmps = Tryz.f48.ntmps := rfl
theorem Tryzbody48 : Tryzfi48.body = (Tryz.f48.body).getD .skip := rfl
theorem TryzfiAt49 : Tryzfi.get 49 = some Tryzfi49 := by rfl
theorem Tryzjoin49 : Tryzfi49.join = false := rfl
theorem Tryzres49 : Tryzfi49.results = Tryz.f49.results.toList := rfl
theorem Tryznt49 : Tryzfi49.ntmps = Tryz.f49.ntmps := rfl
theorem Tryzbody49 : Tryzfi49.body = (Tryz.f49.body).getD .skip := rfl
theorem TryzfiAt50 : Tryzfi.get 50 = some Tryzfi50 := by rfl
theorem Tryzjoin50 : Tryzfi50.join = false := rfl
theorem Tryzres50 : Tryzfi50.results = Tryz.f50.results.toList := rfl
theorem Tryznt50 : Tryzfi50.ntmps = Tryz.f50.ntmps := rfl
theorem Tryzbody50 : Tryzfi50.body = (Tryz.f50.body).getD .skip := rfl
theorem TryzfiAt51 : Tryzfi.get 51 = some Tryzfi51 := by rfl
theorem Tryzjoin51 : Tryzfi51.join = false := rfl
theorem Tryzres51 : Tryzfi51.results = Tryz.f51.results.toList := rfl
theorem Tryznt51 : Tryzfi51.ntmps = Tryz.f51.ntmps := rfl
theorem Tryzbody51 : Tryzfi51.body = (Tryz.f51.body).getD .skip := rfl
theorem TryzfiAt52 : Tryzfi.get 52 = some Tryzfi52 := by rfl
theorem Tryzjoin52 : Tryzfi52.join = false := rfl
theorem Tryzres52 : Tryzfi52.results = Tryz.f52.results.toList := rfl
theorem Tryznt52 : Tryzfi52.ntmps = Tryz.f52.ntmps := rfl
theorem Tryzbody52 : Tryzfi52.body = (Tryz.f52.body).getD .skip := rfl
theorem TryzfiAt53 : Tryzfi.get 53 = some Tryzfi53 := by rfl
theorem Tryzjoin53 : Tryzfi53.join = false := rfl
theorem Tryzres53 : Tryzfi53.results = Tryz.f53.results.toList := rfl
theorem Tryznt53 : Tryzfi53.ntmps = Tryz.f53.ntmps := rfl
theorem Tryzbody53 : Tryzfi53.body = (Tryz.f53.body).getD .skip := rfl
theorem TryzfiAt54 : Tryzfi.get 54 = some Tryzfi54 := by rfl
theorem Tryzjoin54 : Tryzfi54.join = false := rfl
theorem Tryzres54 : Tryzfi54.results = Tryz.f54.results.toList := rfl
theorem Tryznt54 : Tryzfi54.ntmps = Tryz.f54.ntmps := rfl
theorem Tryzbody54 : Tryzfi54.body = (Tryz.f54.body).getD .skip := rfl
theorem TryzfiAt55 : Tryzfi.get 55 = some Tryzfi55 := by rfl
theorem Tryzjoin55 : Tryzfi55.join = false := rfl
theorem Tryzres55 : Tryzfi55.results = Tryz.f55.results.toList := rfl
theorem Tryznt55 : Tryzfi55.ntmps = Tryz.f55.ntmps := rfl
theorem Tryzbody55 : Tryzfi55.body = (Tryz.f55.body).getD .skip := rfl
theorem TryzfiAt56 : Tryzfi.get 56 = some Tryzfi56 := by rfl
theorem Tryzjoin56 : Tryzfi56.join = false := rfl
theorem Tryzres56 : Tryzfi56.results = Tryz.f56.results.toList := rfl
theorem Tryznt56 : Tryzfi56.ntmps = Tryz.f56.ntmps := rfl
theorem Tryzbody56 : Tryzfi56.body = (Tryz.f56.body).getD .skip := rfl
theorem TryzfiAt57 : Tryzfi.get 57 = some Tryzfi57 := by rfl
theorem Tryzjoin57 : Tryzfi57.join = false := rfl
theorem Tryzres57 : Tryzfi57.results = Tryz.f57.results.toList := rfl
theorem Tryznt57 : Tryzfi57.ntmps = Tryz.f57.ntmps := rfl
theorem Tryzbody57 : Tryzfi57.body = (Tryz.f57.body).getD .skip := rfl
theorem TryzfiAt58 : Tryzfi.get 58 = some Tryzfi58 := by rfl
theorem Tryzjoin58 : Tryzfi58.join = false := rfl
theorem Tryzres58 : Tryzfi58.results = Tryz.f58.results.toList := rfl
theorem Tryznt58 : Tryzfi58.ntmps = Tryz.f58.ntmps := rfl
theorem Tryzbody58 : Tryzfi58.body = (Tryz.f58.body).getD .skip := rfl
theorem TryzfiAt59 : Tryzfi.get 59 = some Tryzfi59 := by rfl
theorem Tryzjoin59 : Tryzfi59.join = false := rfl
theorem Tryzres59 : Tryzfi59.results = Tryz.f59.results.toList := rfl
theorem Tryznt59 : Tryzfi59.ntmps = Tryz.f59.ntmps := rfl
theorem Tryzbody59 : Tryzfi59.body = (Tryz.f59.body).getD .skip := rfl
theorem TryzfiAt60 : Tryzfi.get 60 = some Tryzfi60 := by rfl
theorem Tryzjoin60 : Tryzfi60.join = false := rfl
theorem Tryzres60 : Tryzfi60.results = Tryz.f60.results.toList := rfl
theorem Tryznt60 : Tryzfi60.ntmps = Tryz.f60.ntmps := rfl
theorem Tryzbody60 : Tryzfi60.body = (Tryz.f60.body).getD .skip := rfl
theorem TryzfiAt61 : Tryzfi.get 61 = some Tryzfi61 := by rfl
theorem Tryzjoin61 : Tryzfi61.join = false := rfl
theorem Tryzres61 : Tryzfi61.results = Tryz.f61.results.toList := rfl
theorem Tryznt61 : Tryzfi61.ntmps = Tryz.f61.ntmps := rfl
theorem Tryzbody61 : Tryzfi61.body = (Tryz.f61.body).getD .skip := rfl
theorem TryzfiAt62 : Tryzfi.get 62 = some Tryzfi62 := by rfl
theorem Tryzjoin62 : Tryzfi62.join = false := rfl
theorem Tryzres62 : Tryzfi62.results = Tryz.f62.results.toList := rfl
theorem Tryznt62 : Tryzfi62.ntmps = Tryz.f62.ntmps := rfl
theorem Tryzbody62 : Tryzfi62.body = (Tryz.f62.body).getD .skip := rfl
theorem TryzfiAt63 : Tryzfi.get 63 = some Tryzfi63 := by rfl
theorem Tryzjoin63 : Tryzfi63.join = false := rfl
theorem Tryzres63 : Tryzfi63.results = Tryz.f63.results.toList := rfl
theorem Tryznt63 : Tryzfi63.ntmps = Tryz.f63.ntmps := rfl
theorem Tryzbody63 : Tryzfi63.body = (Tryz.f63.body).getD .skip := rfl
theorem TryzfiAt64 : Tryzfi.get 64 = some Tryzfi64 := by rfl
theorem Tryzjoin64 : Tryzfi64.join = false := rfl
theorem Tryzres64 : Tryzfi64.results = Tryz.f64.results.toList := rfl
theorem Tryznt64 : Tryzfi64.ntmps = Tryz.f64.ntmps := rfl
theorem Tryzbody64 : Tryzfi64.body = (Tryz.f64.body).getD .skip := rfl
theorem TryzfiAt65 : Tryzfi.get 65 = some Tryzfi65 := by rfl
theorem Tryzjoin65 : Tryzfi65.join = false := rfl
theorem Tryzres65 : Tryzfi65.results = Tryz.f65.results.toList := rfl
theorem Tryznt65 : Tryzfi65.ntmps = Tryz.f65.ntmps := rfl
theorem Tryzbody65 : Tryzfi65.body = (Tryz.f65.body).getD .skip := rfl
theorem TryzfiAt66 : Tryzfi.get 66 = some Tryzfi66 := by rfl
theorem Tryzjoin66 : Tryzfi66.join = false := rfl
theorem Tryzres66 : Tryzfi66.results = Tryz.f66.results.toList := rfl
theorem Tryznt66 : Tryzfi66.ntmps = Tryz.f66.ntmps := rfl
theorem Tryzbody66 : Tryzfi66.body = (Tryz.f66.body).getD .skip := rfl
theorem TryzfiAt67 : Tryzfi.get 67 = some Tryzfi67 := by rfl
theorem Tryzjoin67 : Tryzfi67.join = false := rfl
theorem Tryzres67 : Tryzfi67.results = Tryz.f67.results.toList := rfl
theorem Tryznt67 : Tryzfi67.ntmps = Tryz.f67.ntmps := rfl
theorem Tryzbody67 : Tryzfi67.body = (Tryz.f67.body).getD .skip := rfl
theorem TryzfiAt68 : Tryzfi.get 68 = some Tryzfi68 := by rfl
theorem Tryzjoin68 : Tryzfi68.join = false := rfl
theorem Tryzres68 : Tryzfi68.results = Tryz.f68.results.toList := rfl
theorem Tryznt68 : Tryzfi68.ntmps = Tryz.f68.ntmps := rfl
theorem Tryzbody68 : Tryzfi68.body = (Tryz.f68.body).getD .skip := rfl
theorem TryzfiAt69 : Tryzfi.get 69 = some Tryzfi69 := by rfl
theorem Tryzjoin69 : Tryzfi69.join = false := rfl
theorem Tryzres69 : Tryzfi69.results = Tryz.f69.results.toList := rfl
theorem Tryznt69 : Tryzfi69.ntmps = Tryz.f69.ntmps := rfl
theorem Tryzbody69 : Tryzfi69.body = (Tryz.f69.body).getD .skip := rfl
theorem TryzfiAt70 : Tryzfi.get 70 = some Tryzfi70 := by rfl
theorem Tryzjoin70 : Tryzfi70.join = false := rfl
theorem Tryzres70 : Tryzfi70.results = Tryz.f70.results.toList := rfl
theorem Tryznt70 : Tryzfi70.ntmps = Tryz.f70.ntmps := rfl
theorem Tryzbody70 : Tryzfi70.body = (Tryz.f70.body).getD .skip := rfl
theorem TryzfiAt71 : Tryzfi.get 71 = some Tryzfi71 := by rfl
theorem Tryzjoin71 : Tryzfi71.join = false := rfl
theorem Tryzres71 : Tryzfi71.results = Tryz.f71.results.toList := rfl
theorem Tryznt71 : Tryzfi71.ntmps = Tryz.f71.ntmps := rfl
theorem Tryzbody71 : Tryzfi71.body = (Tryz.f71.body).getD .skip := rfl
theorem TryzfiAt72 : Tryzfi.get 72 = some Tryzfi72 := by rfl
theorem Tryzjoin72 : Tryzfi72.join = false := rfl
theorem Tryzres72 : Tryzfi72.results = Tryz.f72.results.toList := rfl
theorem Tryznt72 : Tryzfi72.ntmps = Tryz.f72.ntmps := rfl
theorem Tryzbody72 : Tryzfi72.body = (Tryz.f72.body).getD .skip := rfl
theorem TryzfiAt73 : Tryzfi.get 73 = some Tryzfi73 := by rfl
theorem Tryzjoin73 : Tryzfi73.join = false := rfl
theorem Tryzres73 : Tryzfi73.results = Tryz.f73.results.toList := rfl
theorem Tryznt73 : Tryzfi73.ntmps = Tryz.f73.ntmps := rfl
theorem Tryzbody73 : Tryzfi73.body = (Tryz.f73.body).getD .skip := rfl
theorem TryzfiAt74 : Tryzfi.get 74 = some Tryzfi74 := by rfl
theorem Tryzjoin74 : Tryzfi74.join = false := rfl
theorem Tryzres74 : Tryzfi74.results = Tryz.f74.results.toList := rfl
theorem Tryznt74 : Tryzfi74.ntmps = Tryz.f74.ntmps := rfl
theorem Tryzbody74 : Tryzfi74.body = (Tryz.f74.body).getD .skip := rfl
theorem TryzfiAt75 : Tryzfi.get 75 = some Tryzfi75 := by rfl
theorem Tryzjoin75 : Tryzfi75.join = false := rfl
theorem Tryzres75 : Tryzfi75.results = Tryz.f75.results.toList := rfl
theorem Tryznt75 : Tryzfi75.ntmps = Tryz.f75.ntmps := rfl
theorem Tryzbody75 : Tryzfi75.body = (Tryz.f75.body).getD .skip := rfl
theorem TryzfiAt76 : Tryzfi.get 76 = some Tryzfi76 := by rfl
theorem Tryzjoin76 : Tryzfi76.join = false := rfl
theorem Tryzres76 : Tryzfi76.results = Tryz.f76.results.toList := rfl
theorem Tryznt76 : Tryzfi76.ntmps = Tryz.f76.ntmps := rfl
theorem Tryzbody76 : Tryzfi76.body = (Tryz.f76.body).getD .skip := rfl
theorem TryzfiAt77 : Tryzfi.get 77 = some Tryzfi77 := by rfl
theorem Tryzjoin77 : Tryzfi77.join = false := rfl
theorem Tryzres77 : Tryzfi77.results = Tryz.f77.results.toList := rfl
theorem Tryznt77 : Tryzfi77.ntmps = Tryz.f77.ntmps := rfl
theorem Tryzbody77 : Tryzfi77.body = (Tryz.f77.body).getD .skip := rfl
theorem TryzfiAt78 : Tryzfi.get 78 = some Tryzfi78 := by rfl
theorem Tryzjoin78 : Tryzfi78.join = false := rfl
theorem Tryzres78 : Tryzfi78.results = Tryz.f78.results.toList := rfl
theorem Tryznt78 : Tryzfi78.ntmps = Tryz.f78.ntmps := rfl
theorem Tryzbody78 : Tryzfi78.body = (Tryz.f78.body).getD .skip := rfl
theorem TryzfiAt79 : Tryzfi.get 79 = some Tryzfi79 := by rfl
theorem Tryzjoin79 : Tryzfi79.join = false := rfl
theorem Tryzres79 : Tryzfi79.results = Tryz.f79.results.toList := rfl
theorem Tryznt79 : Tryzfi79.ntmps = Tryz.f79.ntmps := rfl
theorem Tryzbody79 : Tryzfi79.body = (Tryz.f79.body).getD .skip := rfl
theorem TryzfiAt80 : Tryzfi.get 80 = some Tryzfi80 := by rfl
theorem Tryzjoin80 : Tryzfi80.join = false := rfl
theorem Tryzres80 : Tryzfi80.results = Tryz.f80.results.toList := rfl
theorem Tryznt80 : Tryzfi80.ntmps = Tryz.f80.ntmps := rfl
theorem Tryzbody80 : Tryzfi80.body = (Tryz.f80.body).getD .skip := rfl
theorem TryzfiAt81 : Tryzfi.get 81 = some Tryzfi81 := by rfl
theorem Tryzjoin81 : Tryzfi81.join = false := rfl
theorem Tryzres81 : Tryzfi81.results = Tryz.f81.results.toList := rfl
theorem Tryznt81 : Tryzfi81.ntmps = Tryz.f81.ntmps := rfl
theorem Tryzbody81 : Tryzfi81.body = (Tryz.f81.body).getD .skip := rfl
theorem TryzfiAt82 : Tryzfi.get 82 = some Tryzfi82 := by rfl
theorem Tryzjoin82 : Tryzfi82.join = false := rfl
theorem Tryzres82 : Tryzfi82.results = Tryz.f82.results.toList := rfl
theorem Tryznt82 : Tryzfi82.ntmps = Tryz.f82.ntmps := rfl
theorem Tryzbody82 : Tryzfi82.body = (Tryz.f82.body).getD .skip := rfl
theorem TryzfiAt83 : Tryzfi.get 83 = some Tryzfi83 := by rfl
theorem Tryzjoin83 : Tryzfi83.join = false := rfl
theorem Tryzres83 : Tryzfi83.results = Tryz.f83.results.toList := rfl
theorem Tryznt83 : Tryzfi83.ntmps = Tryz.f83.ntmps := rfl
theorem Tryzbody83 : Tryzfi83.body = (Tryz.f83.body).getD .skip := rfl
theorem TryzfiAt84 : Tryzfi.get 84 = some Tryzfi84 := by rfl
theorem Tryzjoin84 : Tryzfi84.join = false := rfl
theorem Tryzres84 : Tryzfi84.results = Tryz.f84.results.toList := rfl
theorem Tryznt84 : Tryzfi84.ntmps = Tryz.f84.ntmps := rfl
theorem Tryzbody84 : Tryzfi84.body = (Tryz.f84.body).getD .skip := rfl
theorem TryzfiAt85 : Tryzfi.get 85 = some Tryzfi85 := by rfl
theorem Tryzjoin85 : Tryzfi85.join = false := rfl
theorem Tryzres85 : Tryzfi85.results = Tryz.f85.results.toList := rfl
theorem Tryznt85 : Tryzfi85.ntmps = Tryz.f85.ntmps := rfl
theorem Tryzbody85 : Tryzfi85.body = (Tryz.f85.body).getD .skip := rfl
theorem TryzfiAt86 : Tryzfi.get 86 = some Tryzfi86 := by rfl
theorem Tryzjoin86 : Tryzfi86.join = false := rfl
theorem Tryzres86 : Tryzfi86.results = Tryz.f86.results.toList := rfl
theorem Tryznt86 : Tryzfi86.ntmps = Tryz.f86.ntmps := rfl
theorem Tryzbody86 : Tryzfi86.body = (Tryz.f86.body).getD .skip := rfl
theorem TryzfiAt87 : Tryzfi.get 87 = some Tryzfi87 := by rfl
theorem Tryzjoin87 : Tryzfi87.join = false := rfl
theorem Tryzres87 : Tryzfi87.results = Tryz.f87.results.toList := rfl
theorem Tryznt87 : Tryzfi87.ntmps = Tryz.f87.ntmps := rfl
theorem Tryzbody87 : Tryzfi87.body = (Tryz.f87.body).getD .skip := rfl
theorem TryzfiAt88 : Tryzfi.get 88 = some Tryzfi88 := by rfl
theorem Tryzjoin88 : Tryzfi88.join = false := rfl
theorem Tryzres88 : Tryzfi88.results = Tryz.f88.results.toList := rfl
theorem Tryznt88 : Tryzfi88.ntmps = Tryz.f88.ntmps := rfl
theorem Tryzbody88 : Tryzfi88.body = (Tryz.f88.body).getD .skip := rfl
theorem TryzfiAt89 : Tryzfi.get 89 = some Tryzfi89 := by rfl
theorem Tryzjoin89 : Tryzfi89.join = false := rfl
theorem Tryzres89 : Tryzfi89.results = Tryz.f89.results.toList := rfl
theorem Tryznt89 : Tryzfi89.ntmps = Tryz.f89.ntmps := rfl
theorem Tryzbody89 : Tryzfi89.body = (Tryz.f89.body).getD .skip := rfl
theorem TryzfiAt90 : Tryzfi.get 90 = some Tryzfi90 := by rfl
theorem Tryzjoin90 : Tryzfi90.join = false := rfl
theorem Tryzres90 : Tryzfi90.results = Tryz.f90.results.toList := rfl
theorem Tryznt90 : Tryzfi90.ntmps = Tryz.f90.ntmps := rfl
theorem Tryzbody90 : Tryzfi90.body = (Tryz.f90.body).getD .skip := rfl
theorem TryzfiAt91 : Tryzfi.get 91 = some Tryzfi91 := by rfl
theorem Tryzjoin91 : Tryzfi91.join = false := rfl
theorem Tryzres91 : Tryzfi91.results = Tryz.f91.results.toList := rfl
theorem Tryznt91 : Tryzfi91.ntmps = Tryz.f91.ntmps := rfl
theorem Tryzbody91 : Tryzfi91.body = (Tryz.f91.body).getD .skip := rfl
theorem TryzfiAt92 : Tryzfi.get 92 = some Tryzfi92 := by rfl
theorem Tryzjoin92 : Tryzfi92.join = false := rfl
theorem Tryzres92 : Tryzfi92.results = Tryz.f92.results.toList := rfl
theorem Tryznt92 : Tryzfi92.ntmps = Tryz.f92.ntmps := rfl
theorem Tryzbody92 : Tryzfi92.body = (Tryz.f92.body).getD .skip := rfl
theorem TryzfiAt93 : Tryzfi.get 93 = some Tryzfi93 := by rfl
theorem Tryzjoin93 : Tryzfi93.join = false := rfl
theorem Tryzres93 : Tryzfi93.results = Tryz.f93.results.toList := rfl
theorem Tryznt93 : Tryzfi93.ntmps = Tryz.f93.ntmps := rfl
theorem Tryzbody93 : Tryzfi93.body = (Tryz.f93.body).getD .skip := rfl
theorem TryzfiAt94 : Tryzfi.get 94 = some Tryzfi94 := by rfl
theorem Tryzjoin94 : Tryzfi94.join = false := rfl
theorem Tryzres94 : Tryzfi94.results = Tryz.f94.results.toList := rfl
theorem Tryznt94 : Tryzfi94.ntmps = Tryz.f94.ntmps := rfl
theorem Tryzbody94 : Tryzfi94.body = (Tryz.f94.body).getD .skip := rfl
theorem TryzfiAt95 : Tryzfi.get 95 = some Tryzfi95 := by rfl
theorem Tryzjoin95 : Tryzfi95.join = false := rfl
theorem Tryzres95 : Tryzfi95.results = Tryz.f95.results.toList := rfl
theorem Tryznt95 : Tryzfi95.ntmps = Tryz.f95.ntmps := rfl
theorem Tryzbody95 : Tryzfi95.body = (Tryz.f95.body).getD .skip := rfl
theorem TryzfiAt96 : Tryzfi.get 96 = some Tryzfi96 := by rfl
theorem Tryzjoin96 : Tryzfi96.join = false := rfl
theorem Tryzres96 : Tryzfi96.results = Tryz.f96.results.toList := rfl
theorem Tryznt96 : Tryzfi96.ntmps = Tryz.f96.ntmps := rfl
theorem Tryzbody96 : Tryzfi96.body = (Tryz.f96.body).getD .skip := rfl
theorem TryzfiAt97 : Tryzfi.get 97 = some Tryzfi97 := by rfl
theorem Tryzjoin97 : Tryzfi97.join = false := rfl
theorem Tryzres97 : Tryzfi97.results = Tryz.f97.results.toList := rfl
theorem Tryznt97 : Tryzfi97.ntmps = Tryz.f97.ntmps := rfl
theorem Tryzbody97 : Tryzfi97.body = (Tryz.f97.body).getD .skip := rfl
theorem TryzfiAt98 : Tryzfi.get 98 = some Tryzfi98 := by rfl
theorem Tryzjoin98 : Tryzfi98.join = false := rfl
theorem Tryzres98 : Tryzfi98.results = Tryz.f98.results.toList := rfl
theorem Tryznt98 : Tryzfi98.ntmps = Tryz.f98.ntmps := rfl
theorem Tryzbody98 : Tryzfi98.body = (Tryz.f98.body).getD .skip := rfl
theorem TryzfiAt99 : Tryzfi.get 99 = some Tryzfi99 := by rfl
theorem Tryzjoin99 : Tryzfi99.join = false := rfl
theorem Tryzres99 : Tryzfi99.results = Tryz.f99.results.toList := rfl
theorem Tryznt99 : Tryzfi99.ntmps = Tryz.f99.ntmps := rfl
theorem Tryzbody99 : Tryzfi99.body = (Tryz.f99.body).getD .skip := rfl
theorem TryzfiAt100 : Tryzfi.get 100 = some Tryzfi100 := by rfl
theorem Tryzjoin100 : Tryzfi100.join = false := rfl
theorem Tryzres100 : Tryzfi100.results = Tryz.f100.results.toList := rfl
theorem Tryznt100 : Tryzfi100.ntmps = Tryz.f100.ntmps := rfl
theorem Tryzbody100 : Tryzfi100.body = (Tryz.f100.body).getD .skip := rfl
theorem TryzfiAt101 : Tryzfi.get 101 = some Tryzfi101 := by rfl
theorem Tryzjoin101 : Tryzfi101.join = false := rfl
theorem Tryzres101 : Tryzfi101.results = Tryz.f101.results.toList := rfl
theorem Tryznt101 : Tryzfi101.ntmps = Tryz.f101.ntmps := rfl
theorem Tryzbody101 : Tryzfi101.body = (Tryz.f101.body).getD .skip := rfl
theorem TryzfiAt102 : Tryzfi.get 102 = some Tryzfi102 := by rfl
theorem Tryzjoin102 : Tryzfi102.join = false := rfl
theorem Tryzres102 : Tryzfi102.results = Tryz.f102.results.toList := rfl
theorem Tryznt102 : Tryzfi102.ntmps = Tryz.f102.ntmps := rfl
theorem Tryzbody102 : Tryzfi102.body = (Tryz.f102.body).getD .skip := rfl
theorem TryzfiAt103 : Tryzfi.get 103 = some Tryzfi103 := by rfl
theorem Tryzjoin103 : Tryzfi103.join = false := rfl
theorem Tryzres103 : Tryzfi103.results = Tryz.f103.results.toList := rfl
theorem Tryznt103 : Tryzfi103.ntmps = Tryz.f103.ntmps := rfl
theorem Tryzbody103 : Tryzfi103.body = (Tryz.f103.body).getD .skip := rfl
theorem TryzfiAt104 : Tryzfi.get 104 = some Tryzfi104 := by rfl
theorem Tryzjoin104 : Tryzfi104.join = false := rfl
theorem Tryzres104 : Tryzfi104.results = Tryz.f104.results.toList := rfl
theorem Tryznt104 : Tryzfi104.ntmps = Tryz.f104.ntmps := rfl
theorem Tryzbody104 : Tryzfi104.body = (Tryz.f104.body).getD .skip := rfl
theorem TryzfiAt105 : Tryzfi.get 105 = some Tryzfi105 := by rfl
theorem Tryzjoin105 : Tryzfi105.join = false := rfl
theorem Tryzres105 : Tryzfi105.results = Tryz.f105.results.toList := rfl
theorem Tryznt105 : Tryzfi105.ntmps = Tryz.f105.ntmps := rfl
theorem Tryzbody105 : Tryzfi105.body = (Tryz.f105.body).getD .skip := rfl
theorem TryzfiAt106 : Tryzfi.get 106 = some Tryzfi106 := by rfl
theorem Tryzjoin106 : Tryzfi106.join = false := rfl
theorem Tryzres106 : Tryzfi106.results = Tryz.f106.results.toList := rfl
theorem Tryznt106 : Tryzfi106.ntmps = Tryz.f106.ntmps := rfl
theorem Tryzbody106 : Tryzfi106.body = (Tryz.f106.body).getD .skip := rfl
theorem TryzfiAt107 : Tryzfi.get 107 = some Tryzfi107 := by rfl
theorem Tryzjoin107 : Tryzfi107.join = false := rfl
theorem Tryzres107 : Tryzfi107.results = Tryz.f107.results.toList := rfl
theorem Tryznt107 : Tryzfi107.ntmps = Tryz.f107.ntmps := rfl
theorem Tryzbody107 : Tryzfi107.body = (Tryz.f107.body).getD .skip := rfl
theorem TryzfiAt108 : Tryzfi.get 108 = some Tryzfi108 := by rfl
theorem Tryzjoin108 : Tryzfi108.join = false := rfl
theorem Tryzres108 : Tryzfi108.results = Tryz.f108.results.toList := rfl
theorem Tryznt108 : Tryzfi108.ntmps = Tryz.f108.ntmps := rfl
theorem Tryzbody108 : Tryzfi108.body = (Tryz.f108.body).getD .skip := rfl
theorem TryzfiAt109 : Tryzfi.get 109 = some Tryzfi109 := by rfl
theorem Tryzjoin109 : Tryzfi109.join = false := rfl
theorem Tryzres109 : Tryzfi109.results = Tryz.f109.results.toList := rfl
theorem Tryznt109 : Tryzfi109.ntmps = Tryz.f109.ntmps := rfl
theorem Tryzbody109 : Tryzfi109.body = (Tryz.f109.body).getD .skip := rfl
theorem TryzfiAt110 : Tryzfi.get 110 = some Tryzfi110 := by rfl
theorem Tryzjoin110 : Tryzfi110.join = false := rfl
theorem Tryzres110 : Tryzfi110.results = Tryz.f110.results.toList := rfl
theorem Tryznt110 : Tryzfi110.ntmps = Tryz.f110.ntmps := rfl
theorem Tryzbody110 : Tryzfi110.body = (Tryz.f110.body).getD .skip := rfl
theorem TryzfiAt111 : Tryzfi.get 111 = some Tryzfi111 := by rfl
theorem Tryzjoin111 : Tryzfi111.join = false := rfl
theorem Tryzres111 : Tryzfi111.results = Tryz.f111.results.toList := rfl
theorem Tryznt111 : Tryzfi111.ntmps = Tryz.f111.ntmps := rfl
theorem Tryzbody111 : Tryzfi111.body = (Tryz.f111.body).getD .skip := rfl
theorem TryzfiAt112 : Tryzfi.get 112 = some Tryzfi112 := by rfl
theorem Tryzjoin112 : Tryzfi112.join = false := rfl
theorem Tryzres112 : Tryzfi112.results = Tryz.f112.results.toList := rfl
theorem Tryznt112 : Tryzfi112.ntmps = Tryz.f112.ntmps := rfl
theorem Tryzbody112 : Tryzfi112.body = (Tryz.f112.body).getD .skip := rfl
theorem TryzfiAt113 : Tryzfi.get 113 = some Tryzfi113 := by rfl
theorem Tryzjoin113 : Tryzfi113.join = false := rfl
theorem Tryzres113 : Tryzfi113.results = Tryz.f113.results.toList := rfl
theorem Tryznt113 : Tryzfi113.ntmps = Tryz.f113.ntmps := rfl
theorem Tryzbody113 : Tryzfi113.body = (Tryz.f113.body).getD .skip := rfl
theorem TryzfiAt114 : Tryzfi.get 114 = some Tryzfi114 := by rfl
theorem Tryzjoin114 : Tryzfi114.join = false := rfl
theorem Tryzres114 : Tryzfi114.results = Tryz.f114.results.toList := rfl
theorem Tryznt114 : Tryzfi114.ntmps = Tryz.f114.ntmps := rfl
theorem Tryzbody114 : Tryzfi114.body = (Tryz.f114.body).getD .skip := rfl
theorem TryzfiAt115 : Tryzfi.get 115 = some Tryzfi115 := by rfl
theorem Tryzjoin115 : Tryzfi115.join = false := rfl
theorem Tryzres115 : Tryzfi115.results = Tryz.f115.results.toList := rfl
theorem Tryznt115 : Tryzfi115.ntmps = Tryz.f115.ntmps := rfl
theorem Tryzbody115 : Tryzfi115.body = (Tryz.f115.body).getD .skip := rfl
theorem TryzfiAt116 : Tryzfi.get 116 = some Tryzfi116 := by rfl
theorem Tryzjoin116 : Tryzfi116.join = false := rfl
theorem Tryzres116 : Tryzfi116.results = Tryz.f116.results.toList := rfl
theorem Tryznt116 : Tryzfi116.ntmps = Tryz.f116.ntmps := rfl
theorem Tryzbody116 : Tryzfi116.body = (Tryz.f116.body).getD .skip := rfl
theorem TryzfiAt117 : Tryzfi.get 117 = some Tryzfi117 := by rfl
theorem Tryzjoin117 : Tryzfi117.join = false := rfl
theorem Tryzres117 : Tryzfi117.results = Tryz.f117.results.toList := rfl
theorem Tryznt117 : Tryzfi117.ntmps = Tryz.f117.ntmps := rfl
theorem Tryzbody117 : Tryzfi117.body = (Tryz.f117.body).getD .skip := rfl
theorem TryzfiAt118 : Tryzfi.get 118 = some Tryzfi118 := by rfl
theorem Tryzjoin118 : Tryzfi118.join = false := rfl
theorem Tryzres118 : Tryzfi118.results = Tryz.f118.results.toList := rfl
theorem Tryznt118 : Tryzfi118.ntmps = Tryz.f118.ntmps := rfl
theorem Tryzbody118 : Tryzfi118.body = (Tryz.f118.body).getD .skip := rfl
theorem TryzfiAt119 : Tryzfi.get 119 = some Tryzfi119 := by rfl
theorem Tryzjoin119 : Tryzfi119.join = false := rfl
theorem Tryzres119 : Tryzfi119.results = Tryz.f119.results.toList := rfl
theorem Tryznt119 : Tryzfi119.ntmps = Tryz.f119.ntmps := rfl
theorem Tryzbody119 : Tryzfi119.body = (Tryz.f119.body).getD .skip := rfl
theorem TryzfiAt120 : Tryzfi.get 120 = some Tryzfi120 := by rfl
theorem Tryzjoin120 : Tryzfi120.join = false := rfl
theorem Tryzres120 : Tryzfi120.results = Tryz.f120.results.toList := rfl
theorem Tryznt120 : Tryzfi120.ntmps = Tryz.f120.ntmps := rfl
theorem Tryzbody120 : Tryzfi120.body = (Tryz.f120.body).getD .skip := rfl
theorem TryzfiAt121 : Tryzfi.get 121 = some Tryzfi121 := by rfl
theorem Tryzjoin121 : Tryzfi121.join = false := rfl
theorem Tryzres121 : Tryzfi121.results = Tryz.f121.results.toList := rfl
theorem Tryznt121 : Tryzfi121.ntmps = Tryz.f121.ntmps := rfl
theorem Tryzbody121 : Tryzfi121.body = (Tryz.f121.body).getD .skip := rfl
theorem TryzfiAt122 : Tryzfi.get 122 = some Tryzfi122 := by rfl
theorem Tryzjoin122 : Tryzfi122.join = false := rfl
theorem Tryzres122 : Tryzfi122.results = Tryz.f122.results.toList := rfl
theorem Tryznt122 : Tryzfi122.ntmps = Tryz.f122.ntmps := rfl
theorem Tryzbody122 : Tryzfi122.body = (Tryz.f122.body).getD .skip := rfl
theorem TryzfiAt123 : Tryzfi.get 123 = some Tryzfi123 := by rfl
theorem Tryzjoin123 : Tryzfi123.join = false := rfl
theorem Tryzres123 : Tryzfi123.results = Tryz.f123.results.toList := rfl
theorem Tryznt123 : Tryzfi123.ntmps = Tryz.f123.ntmps := rfl
theorem Tryzbody123 : Tryzfi123.body = (Tryz.f123.body).getD .skip := rfl
theorem TryzfiAt124 : Tryzfi.get 124 = some Tryzfi124 := by rfl
theorem Tryzjoin124 : Tryzfi124.join = false := rfl
theorem Tryzres124 : Tryzfi124.results = Tryz.f124.results.toList := rfl
theorem Tryznt124 : Tryzfi124.ntmps = Tryz.f124.ntmps := rfl
theorem Tryzbody124 : Tryzfi124.body = (Tryz.f124.body).getD .skip := rfl
theorem TryzfiAt125 : Tryzfi.get 125 = some Tryzfi125 := by rfl
theorem Tryzjoin125 : Tryzfi125.join = false := rfl
theorem Tryzres125 : Tryzfi125.results = Tryz.f125.results.toList := rfl
theorem Tryznt125 : Tryzfi125.ntmps = Tryz.f125.ntmps := rfl
theorem Tryzbody125 : Tryzfi125.body = (Tryz.f125.body).getD .skip := rfl
theorem TryzfiAt126 : Tryzfi.get 126 = some Tryzfi126 := by rfl
theorem Tryzjoin126 : Tryzfi126.join = false := rfl
theorem Tryzres126 : Tryzfi126.results = Tryz.f126.results.toList := rfl
theorem Tryznt126 : Tryzfi126.ntmps = Tryz.f126.ntmps := rfl
theorem Tryzbody126 : Tryzfi126.body = (Tryz.f126.body).getD .skip := rfl
theorem TryzfiAt127 : Tryzfi.get 127 = some Tryzfi127 := by rfl
theorem Tryzjoin127 : Tryzfi127.join = false := rfl
theorem Tryzres127 : Tryzfi127.results = Tryz.f127.results.toList := rfl
theorem Tryznt127 : Tryzfi127.ntmps = Tryz.f127.ntmps := rfl
theorem Tryzbody127 : Tryzfi127.body = (Tryz.f127.body).getD .skip := rfl
theorem TryzfiAt128 : Tryzfi.get 128 = some Tryzfi128 := by rfl
theorem Tryzjoin128 : Tryzfi128.join = false := rfl
theorem Tryzres128 : Tryzfi128.results = Tryz.f128.results.toList := rfl
theorem Tryznt128 : Tryzfi128.ntmps = Tryz.f128.ntmps := rfl
theorem Tryzbody128 : Tryzfi128.body = (Tryz.f128.body).getD .skip := rfl
theorem TryzfiAt129 : Tryzfi.get 129 = some Tryzfi129 := by rfl
theorem Tryzjoin129 : Tryzfi129.join = false := rfl
theorem Tryzres129 : Tryzfi129.results = Tryz.f129.results.toList := rfl
theorem Tryznt129 : Tryzfi129.ntmps = Tryz.f129.ntmps := rfl
theorem Tryzbody129 : Tryzfi129.body = (Tryz.f129.body).getD .skip := rfl
theorem TryzfiAt130 : Tryzfi.get 130 = some Tryzfi130 := by rfl
theorem Tryzjoin130 : Tryzfi130.join = false := rfl
theorem Tryzres130 : Tryzfi130.results = Tryz.f130.results.toList := rfl
theorem Tryznt130 : Tryzfi130.ntmps = Tryz.f130.ntmps := rfl
theorem Tryzbody130 : Tryzfi130.body = (Tryz.f130.body).getD .skip := rfl
theorem TryzfiAt131 : Tryzfi.get 131 = some Tryzfi131 := by rfl
theorem Tryzjoin131 : Tryzfi131.join = false := rfl
theorem Tryzres131 : Tryzfi131.results = Tryz.f131.results.toList := rfl
theorem Tryznt131 : Tryzfi131.ntmps = Tryz.f131.ntmps := rfl
theorem Tryzbody131 : Tryzfi131.body = (Tryz.f131.body).getD .skip := rfl
theorem TryzfiAt132 : Tryzfi.get 132 = some Tryzfi132 := by rfl
theorem Tryzjoin132 : Tryzfi132.join = false := rfl
theorem Tryzres132 : Tryzfi132.results = Tryz.f132.results.toList := rfl
theorem Tryznt132 : Tryzfi132.ntmps = Tryz.f132.ntmps := rfl
theorem Tryzbody132 : Tryzfi132.body = (Tryz.f132.body).getD .skip := rfl
theorem TryzfiAt133 : Tryzfi.get 133 = some Tryzfi133 := by rfl
theorem Tryzjoin133 : Tryzfi133.join = false := rfl
theorem Tryzres133 : Tryzfi133.results = Tryz.f133.results.toList := rfl
theorem Tryznt133 : Tryzfi133.ntmps = Tryz.f133.ntmps := rfl
theorem Tryzbody133 : Tryzfi133.body = (Tryz.f133.body).getD .skip := rfl
theorem TryzfiAt134 : Tryzfi.get 134 = some Tryzfi134 := by rfl
theorem Tryzjoin134 : Tryzfi134.join = false := rfl
theorem Tryzres134 : Tryzfi134.results = Tryz.f134.results.toList := rfl
theorem Tryznt134 : Tryzfi134.ntmps = Tryz.f134.ntmps := rfl
theorem Tryzbody134 : Tryzfi134.body = (Tryz.f134.body).getD .skip := rfl
theorem TryzfiAt135 : Tryzfi.get 135 = some Tryzfi135 := by rfl
theorem Tryzjoin135 : Tryzfi135.join = false := rfl
theorem Tryzres135 : Tryzfi135.results = Tryz.f135.results.toList := rfl
theorem Tryznt135 : Tryzfi135.ntmps = Tryz.f135.ntmps := rfl
theorem Tryzbody135 : Tryzfi135.body = (Tryz.f135.body).getD .skip := rfl
theorem TryzfiAt136 : Tryzfi.get 136 = some Tryzfi136 := by rfl
theorem Tryzjoin136 : Tryzfi136.join = false := rfl
theorem Tryzres136 : Tryzfi136.results = Tryz.f136.results.toList := rfl
theorem Tryznt136 : Tryzfi136.ntmps = Tryz.f136.ntmps := rfl
theorem Tryzbody136 : Tryzfi136.body = (Tryz.f136.body).getD .skip := rfl
theorem TryzfiAt137 : Tryzfi.get 137 = some Tryzfi137 := by rfl
theorem Tryzjoin137 : Tryzfi137.join = false := rfl
theorem Tryzres137 : Tryzfi137.results = Tryz.f137.results.toList := rfl
theorem Tryznt137 : Tryzfi137.ntmps = Tryz.f137.ntmps := rfl
theorem Tryzbody137 : Tryzfi137.body = (Tryz.f137.body).getD .skip := rfl
theorem TryzfiAt138 : Tryzfi.get 138 = some Tryzfi138 := by rfl
theorem Tryzjoin138 : Tryzfi138.join = false := rfl
theorem Tryzres138 : Tryzfi138.results = Tryz.f138.results.toList := rfl
theorem Tryznt138 : Tryzfi138.ntmps = Tryz.f138.ntmps := rfl
theorem Tryzbody138 : Tryzfi138.body = (Tryz.f138.body).getD .skip := rfl
theorem TryzfiAt139 : Tryzfi.get 139 = some Tryzfi139 := by rfl
theorem Tryzjoin139 : Tryzfi139.join = false := rfl
theorem Tryzres139 : Tryzfi139.results = Tryz.f139.results.toList := rfl
theorem Tryznt139 : Tryzfi139.ntmps = Tryz.f139.ntmps := rfl
theorem Tryzbody139 : Tryzfi139.body = (Tryz.f139.body).getD .skip := rfl
theorem TryzfiAt140 : Tryzfi.get 140 = some Tryzfi140 := by rfl
theorem Tryzjoin140 : Tryzfi140.join = false := rfl
theorem Tryzres140 : Tryzfi140.results = Tryz.f140.results.toList := rfl
theorem Tryznt140 : Tryzfi140.ntmps = Tryz.f140.ntmps := rfl
theorem Tryzbody140 : Tryzfi140.body = (Tryz.f140.body).getD .skip := rfl
theorem TryzfiAt141 : Tryzfi.get 141 = some Tryzfi141 := by rfl
theorem Tryzjoin141 : Tryzfi141.join = false := rfl
theorem Tryzres141 : Tryzfi141.results = Tryz.f141.results.toList := rfl
theorem Tryznt141 : Tryzfi141.ntmps = Tryz.f141.ntmps := rfl
theorem Tryzbody141 : Tryzfi141.body = (Tryz.f141.body).getD .skip := rfl
theorem TryzfiAt142 : Tryzfi.get 142 = some Tryzfi142 := by rfl
theorem Tryzjoin142 : Tryzfi142.join = false := rfl
theorem Tryzres142 : Tryzfi142.results = Tryz.f142.results.toList := rfl
theorem Tryznt142 : Tryzfi142.ntmps = Tryz.f142.ntmps := rfl
theorem Tryzbody142 : Tryzfi142.body = (Tryz.f142.body).getD .skip := rfl
theorem TryzfiAt143 : Tryzfi.get 143 = some Tryzfi143 := by rfl
theorem Tryzjoin143 : Tryzfi143.join = false := rfl
theorem Tryzres143 : Tryzfi143.results = Tryz.f143.results.toList := rfl
theorem Tryznt143 : Tryzfi143.ntmps = Tryz.f143.ntmps := rfl
theorem Tryzbody143 : Tryzfi143.body = (Tryz.f143.body).getD .skip := rfl
theorem TryzfiAt144 : Tryzfi.get 144 = some Tryzfi144 := by rfl
theorem Tryzjoin144 : Tryzfi144.join = false := rfl
theorem Tryzres144 : Tryzfi144.results = Tryz.f144.results.toList := rfl
theorem Tryznt144 : Tryzfi144.ntmps = Tryz.f144.ntmps := rfl
theorem Tryzbody144 : Tryzfi144.body = (Tryz.f144.body).getD .skip := rfl
theorem TryzfiAt145 : Tryzfi.get 145 = some Tryzfi145 := by rfl
theorem Tryzjoin145 : Tryzfi145.join = false := rfl
theorem Tryzres145 : Tryzfi145.results = Tryz.f145.results.toList := rfl
theorem Tryznt145 : Tryzfi145.ntmps = Tryz.f145.ntmps := rfl
theorem Tryzbody145 : Tryzfi145.body = (Tryz.f145.body).getD .skip := rfl
theorem TryzfiAt146 : Tryzfi.get 146 = some Tryzfi146 := by rfl
theorem Tryzjoin146 : Tryzfi146.join = false := rfl
theorem Tryzres146 : Tryzfi146.results = Tryz.f146.results.toList := rfl
theorem Tryznt146 : Tryzfi146.ntmps = Tryz.f146.ntmps := rfl
theorem Tryzbody146 : Tryzfi146.body = (Tryz.f146.body).getD .skip := rfl
theorem TryzfiAt147 : Tryzfi.get 147 = some Tryzfi147 := by rfl
theorem Tryzjoin147 : Tryzfi147.join = false := rfl
theorem Tryzres147 : Tryzfi147.results = Tryz.f147.results.toList := rfl
theorem Tryznt147 : Tryzfi147.ntmps = Tryz.f147.ntmps := rfl
theorem Tryzbody147 : Tryzfi147.body = (Tryz.f147.body).getD .skip := rfl
theorem TryzfiAt148 : Tryzfi.get 148 = some Tryzfi148 := by rfl
theorem Tryzjoin148 : Tryzfi148.join = false := rfl
theorem Tryzres148 : Tryzfi148.results = Tryz.f148.results.toList := rfl
theorem Tryznt148 : Tryzfi148.ntmps = Tryz.f148.ntmps := rfl
theorem Tryzbody148 : Tryzfi148.body = (Tryz.f148.body).getD .skip := rfl
theorem TryzfiAt149 : Tryzfi.get 149 = some Tryzfi149 := by rfl
theorem Tryzjoin149 : Tryzfi149.join = false := rfl
theorem Tryzres149 : Tryzfi149.results = Tryz.f149.results.toList := rfl
theorem Tryznt149 : Tryzfi149.ntmps = Tryz.f149.ntmps := rfl
theorem Tryzbody149 : Tryzfi149.body = (Tryz.f149.body).getD .skip := rfl
theorem TryzfiAt150 : Tryzfi.get 150 = some Tryzfi150 := by rfl
theorem Tryzjoin150 : Tryzfi150.join = false := rfl
theorem Tryzres150 : Tryzfi150.results = Tryz.f150.results.toList := rfl
theorem Tryznt150 : Tryzfi150.ntmps = Tryz.f150.ntmps := rfl
theorem Tryzbody150 : Tryzfi150.body = (Tryz.f150.body).getD .skip := rfl
theorem TryzfiAt151 : Tryzfi.get 151 = some Tryzfi151 := by rfl
theorem Tryzjoin151 : Tryzfi151.join = false := rfl
theorem Tryzres151 : Tryzfi151.results = Tryz.f151.results.toList := rfl
theorem Tryznt151 : Tryzfi151.ntmps = Tryz.f151.ntmps := rfl
theorem Tryzbody151 : Tryzfi151.body = (Tryz.f151.body).getD .skip := rfl
theorem TryzfiAt152 : Tryzfi.get 152 = some Tryzfi152 := by rfl
theorem Tryzjoin152 : Tryzfi152.join = false := rfl
theorem Tryzres152 : Tryzfi152.results = Tryz.f152.results.toList := rfl
theorem Tryznt152 : Tryzfi152.ntmps = Tryz.f152.ntmps := rfl
theorem Tryzbody152 : Tryzfi152.body = (Tryz.f152.body).getD .skip := rfl
theorem TryzfiAt153 : Tryzfi.get 153 = some Tryzfi153 := by rfl
theorem Tryzjoin153 : Tryzfi153.join = false := rfl
theorem Tryzres153 : Tryzfi153.results = Tryz.f153.results.toList := rfl
theorem Tryznt153 : Tryzfi153.ntmps = Tryz.f153.ntmps := rfl
theorem Tryzbody153 : Tryzfi153.body = (Tryz.f153.body).getD .skip := rfl
theorem TryzfiAt154 : Tryzfi.get 154 = some Tryzfi154 := by rfl
theorem Tryzjoin154 : Tryzfi154.join = false := rfl
theorem Tryzres154 : Tryzfi154.results = Tryz.f154.results.toList := rfl
theorem Tryznt154 : Tryzfi154.ntmps = Tryz.f154.ntmps := rfl
theorem Tryzbody154 : Tryzfi154.body = (Tryz.f154.body).getD .skip := rfl
theorem TryzfiAt155 : Tryzfi.get 155 = some Tryzfi155 := by rfl
theorem Tryzjoin155 : Tryzfi155.join = false := rfl
theorem Tryzres155 : Tryzfi155.results = Tryz.f155.results.toList := rfl
theorem Tryznt155 : Tryzfi155.ntmps = Tryz.f155.ntmps := rfl
theorem Tryzbody155 : Tryzfi155.body = (Tryz.f155.body).getD .skip := rfl
theorem TryzfiAt156 : Tryzfi.get 156 = some Tryzfi156 := by rfl
theorem Tryzjoin156 : Tryzfi156.join = false := rfl
theorem Tryzres156 : Tryzfi156.results = Tryz.f156.results.toList := rfl
theorem Tryznt156 : Tryzfi156.ntmps = Tryz.f156.ntmps := rfl
theorem Tryzbody156 : Tryzfi156.body = (Tryz.f156.body).getD .skip := rfl
theorem TryzfiAt157 : Tryzfi.get 157 = some Tryzfi157 := by rfl
theorem Tryzjoin157 : Tryzfi157.join = false := rfl
theorem Tryzres157 : Tryzfi157.results = Tryz.f157.results.toList := rfl
theorem Tryznt157 : Tryzfi157.ntmps = Tryz.f157.ntmps := rfl
theorem Tryzbody157 : Tryzfi157.body = (Tryz.f157.body).getD .skip := rfl
theorem TryzfiAt158 : Tryzfi.get 158 = some Tryzfi158 := by rfl
theorem Tryzjoin158 : Tryzfi158.join = false := rfl
theorem Tryzres158 : Tryzfi158.results = Tryz.f158.results.toList := rfl
theorem Tryznt158 : Tryzfi158.ntmps = Tryz.f158.ntmps := rfl
theorem Tryzbody158 : Tryzfi158.body = (Tryz.f158.body).getD .skip := rfl
theorem TryzfiAt159 : Tryzfi.get 159 = some Tryzfi159 := by rfl
theorem Tryzjoin159 : Tryzfi159.join = false := rfl
theorem Tryzres159 : Tryzfi159.results = Tryz.f159.results.toList := rfl
theorem Tryznt159 : Tryzfi159.ntmps = Tryz.f159.ntmps := rfl
theorem Tryzbody159 : Tryzfi159.body = (Tryz.f159.body).getD .skip := rfl
theorem TryzfiAt160 : Tryzfi.get 160 = some Tryzfi160 := by rfl
theorem Tryzjoin160 : Tryzfi160.join = false := rfl
theorem Tryzres160 : Tryzfi160.results = Tryz.f160.results.toList := rfl
theorem Tryznt160 : Tryzfi160.ntmps = Tryz.f160.ntmps := rfl
theorem Tryzbody160 : Tryzfi160.body = (Tryz.f160.body).getD .skip := rfl
theorem TryzfiAt161 : Tryzfi.get 161 = some Tryzfi161 := by rfl
theorem Tryzjoin161 : Tryzfi161.join = false := rfl
theorem Tryzres161 : Tryzfi161.results = Tryz.f161.results.toList := rfl
theorem Tryznt161 : Tryzfi161.ntmps = Tryz.f161.ntmps := rfl
theorem Tryzbody161 : Tryzfi161.body = (Tryz.f161.body).getD .skip := rfl
theorem TryzfiAt162 : Tryzfi.get 162 = some Tryzfi162 := by rfl
theorem Tryzjoin162 : Tryzfi162.join = false := rfl
theorem Tryzres162 : Tryzfi162.results = Tryz.f162.results.toList := rfl
theorem Tryznt162 : Tryzfi162.ntmps = Tryz.f162.ntmps := rfl
theorem Tryzbody162 : Tryzfi162.body = (Tryz.f162.body).getD .skip := rfl
theorem TryzfiAt163 : Tryzfi.get 163 = some Tryzfi163 := by rfl
theorem Tryzjoin163 : Tryzfi163.join = false := rfl
theorem Tryzres163 : Tryzfi163.results = Tryz.f163.results.toList := rfl
theorem Tryznt163 : Tryzfi163.ntmps = Tryz.f163.ntmps := rfl
theorem Tryzbody163 : Tryzfi163.body = (Tryz.f163.body).getD .skip := rfl
theorem TryzfiAt164 : Tryzfi.get 164 = some Tryzfi164 := by rfl
theorem Tryzjoin164 : Tryzfi164.join = false := rfl
theorem Tryzres164 : Tryzfi164.results = Tryz.f164.results.toList := rfl
theorem Tryznt164 : Tryzfi164.ntmps = Tryz.f164.ntmps := rfl
theorem Tryzbody164 : Tryzfi164.body = (Tryz.f164.body).getD .skip := rfl
theorem TryzfiAt165 : Tryzfi.get 165 = some Tryzfi165 := by rfl
theorem Tryzjoin165 : Tryzfi165.join = false := rfl
theorem Tryzres165 : Tryzfi165.results = Tryz.f165.results.toList := rfl
theorem Tryznt165 : Tryzfi165.ntmps = Tryz.f165.ntmps := rfl
theorem Tryzbody165 : Tryzfi165.body = (Tryz.f165.body).getD .skip := rfl
theorem TryzfiAt166 : Tryzfi.get 166 = some Tryzfi166 := by rfl
theorem Tryzjoin166 : Tryzfi166.join = false := rfl
theorem Tryzres166 : Tryzfi166.results = Tryz.f166.results.toList := rfl
theorem Tryznt166 : Tryzfi166.ntmps = Tryz.f166.ntmps := rfl
theorem Tryzbody166 : Tryzfi166.body = (Tryz.f166.body).getD .skip := rfl
theorem TryzfiAt167 : Tryzfi.get 167 = some Tryzfi167 := by rfl
theorem Tryzjoin167 : Tryzfi167.join = false := rfl
theorem Tryzres167 : Tryzfi167.results = Tryz.f167.results.toList := rfl
theorem Tryznt167 : Tryzfi167.ntmps = Tryz.f167.ntmps := rfl
theorem Tryzbody167 : Tryzfi167.body = (Tryz.f167.body).getD .skip := rfl
theorem TryzfiAt168 : Tryzfi.get 168 = some Tryzfi168 := by rfl
theorem Tryzjoin168 : Tryzfi168.join = false := rfl
theorem Tryzres168 : Tryzfi168.results = Tryz.f168.results.toList := rfl
theorem Tryznt168 : Tryzfi168.ntmps = Tryz.f168.ntmps := rfl
theorem Tryzbody168 : Tryzfi168.body = (Tryz.f168.body).getD .skip := rfl
theorem TryzfiAt169 : Tryzfi.get 169 = some Tryzfi169 := by rfl
theorem Tryzjoin169 : Tryzfi169.join = false := rfl
theorem Tryzres169 : Tryzfi169.results = Tryz.f169.results.toList := rfl
theorem Tryznt169 : Tryzfi169.ntmps = Tryz.f169.ntmps := rfl
theorem Tryzbody169 : Tryzfi169.body = (Tryz.f169.body).getD .skip := rfl
theorem TryzfiAt170 : Tryzfi.get 170 = some Tryzfi170 := by rfl
theorem Tryzjoin170 : Tryzfi170.join = false := rfl
theorem Tryzres170 : Tryzfi170.results = Tryz.f170.results.toList := rfl
theorem Tryznt170 : Tryzfi170.ntmps = Tryz.f170.ntmps := rfl
theorem Tryzbody170 : Tryzfi170.body = (Tryz.f170.body).getD .skip := rfl
theorem TryzfiAt171 : Tryzfi.get 171 = some Tryzfi171 := by rfl
theorem Tryzjoin171 : Tryzfi171.join = false := rfl
theorem Tryzres171 : Tryzfi171.results = Tryz.f171.results.toList := rfl
theorem Tryznt171 : Tryzfi171.ntmps = Tryz.f171.ntmps := rfl
theorem Tryzbody171 : Tryzfi171.body = (Tryz.f171.body).getD .skip := rfl
theorem TryzfiAt172 : Tryzfi.get 172 = some Tryzfi172 := by rfl
theorem Tryzjoin172 : Tryzfi172.join = false := rfl
theorem Tryzres172 : Tryzfi172.results = Tryz.f172.results.toList := rfl
theorem Tryznt172 : Tryzfi172.ntmps = Tryz.f172.ntmps := rfl
theorem Tryzbody172 : Tryzfi172.body = (Tryz.f172.body).getD .skip := rfl
theorem TryzfiAt173 : Tryzfi.get 173 = some Tryzfi173 := by rfl
theorem Tryzjoin173 : Tryzfi173.join = false := rfl
theorem Tryzres173 : Tryzfi173.results = Tryz.f173.results.toList := rfl
theorem Tryznt173 : Tryzfi173.ntmps = Tryz.f173.ntmps := rfl
theorem Tryzbody173 : Tryzfi173.body = (Tryz.f173.body).getD .skip := rfl
theorem TryzfiAt174 : Tryzfi.get 174 = some Tryzfi174 := by rfl
theorem Tryzjoin174 : Tryzfi174.join = false := rfl
theorem Tryzres174 : Tryzfi174.results = Tryz.f174.results.toList := rfl
theorem Tryznt174 : Tryzfi174.ntmps = Tryz.f174.ntmps := rfl
theorem Tryzbody174 : Tryzfi174.body = (Tryz.f174.body).getD .skip := rfl
theorem TryzfiAt175 : Tryzfi.get 175 = some Tryzfi175 := by rfl
theorem Tryzjoin175 : Tryzfi175.join = false := rfl
theorem Tryzres175 : Tryzfi175.results = Tryz.f175.results.toList := rfl
theorem Tryznt175 : Tryzfi175.ntmps = Tryz.f175.ntmps := rfl
theorem Tryzbody175 : Tryzfi175.body = (Tryz.f175.body).getD .skip := rfl
theorem TryzfiAt176 : Tryzfi.get 176 = some Tryzfi176 := by rfl
theorem Tryzjoin176 : Tryzfi176.join = false := rfl
theorem Tryzres176 : Tryzfi176.results = Tryz.f176.results.toList := rfl
theorem Tryznt176 : Tryzfi176.ntmps = Tryz.f176.ntmps := rfl
theorem Tryzbody176 : Tryzfi176.body = (Tryz.f176.body).getD .skip := rfl
theorem TryzfiAt177 : Tryzfi.get 177 = some Tryzfi177 := by rfl
theorem Tryzjoin177 : Tryzfi177.join = false := rfl
theorem Tryzres177 : Tryzfi177.results = Tryz.f177.results.toList := rfl
theorem Tryznt177 : Tryzfi177.ntmps = Tryz.f177.ntmps := rfl
theorem Tryzbody177 : Tryzfi177.body = (Tryz.f177.body).getD .skip := rfl
theorem TryzfiAt178 : Tryzfi.get 178 = some Tryzfi178 := by rfl
theorem Tryzjoin178 : Tryzfi178.join = false := rfl
theorem Tryzres178 : Tryzfi178.results = Tryz.f178.results.toList := rfl
theorem Tryznt178 : Tryzfi178.ntmps = Tryz.f178.ntmps := rfl
theorem Tryzbody178 : Tryzfi178.body = (Tryz.f178.body).getD .skip := rfl
theorem TryzfiAt179 : Tryzfi.get 179 = some Tryzfi179 := by rfl
theorem Tryzjoin179 : Tryzfi179.join = false := rfl
theorem Tryzres179 : Tryzfi179.results = Tryz.f179.results.toList := rfl
theorem Tryznt179 : Tryzfi179.ntmps = Tryz.f179.ntmps := rfl
theorem Tryzbody179 : Tryzfi179.body = (Tryz.f179.body).getD .skip := rfl
theorem TryzfiAt180 : Tryzfi.get 180 = some Tryzfi180 := by rfl
theorem Tryzjoin180 : Tryzfi180.join = false := rfl
theorem Tryzres180 : Tryzfi180.results = Tryz.f180.results.toList := rfl
theorem Tryznt180 : Tryzfi180.ntmps = Tryz.f180.ntmps := rfl
theorem Tryzbody180 : Tryzfi180.body = (Tryz.f180.body).getD .skip := rfl
theorem TryzfiAt181 : Tryzfi.get 181 = some Tryzfi181 := by rfl
theorem Tryzjoin181 : Tryzfi181.join = false := rfl
theorem Tryzres181 : Tryzfi181.results = Tryz.f181.results.toList := rfl
theorem Tryznt181 : Tryzfi181.ntmps = Tryz.f181.ntmps := rfl
theorem Tryzbody181 : Tryzfi181.body = (Tryz.f181.body).getD .skip := rfl
theorem TryzfiAt182 : Tryzfi.get 182 = some Tryzfi182 := by rfl
theorem Tryzjoin182 : Tryzfi182.join = false := rfl
theorem Tryzres182 : Tryzfi182.results = Tryz.f182.results.toList := rfl
theorem Tryznt182 : Tryzfi182.ntmps = Tryz.f182.ntmps := rfl
theorem Tryzbody182 : Tryzfi182.body = (Tryz.f182.body).getD .skip := rfl
theorem TryzfiAt183 : Tryzfi.get 183 = some Tryzfi183 := by rfl
theorem Tryzjoin183 : Tryzfi183.join = false := rfl
theorem Tryzres183 : Tryzfi183.results = Tryz.f183.results.toList := rfl
theorem Tryznt183 : Tryzfi183.ntmps = Tryz.f183.ntmps := rfl
theorem Tryzbody183 : Tryzfi183.body = (Tryz.f183.body).getD .skip := rfl
theorem TryzfiAt184 : Tryzfi.get 184 = some Tryzfi184 := by rfl
theorem Tryzjoin184 : Tryzfi184.join = false := rfl
theorem Tryzres184 : Tryzfi184.results = Tryz.f184.results.toList := rfl
theorem Tryznt184 : Tryzfi184.ntmps = Tryz.f184.ntmps := rfl
theorem Tryzbody184 : Tryzfi184.body = (Tryz.f184.body).getD .skip := rfl
theorem TryzfiAt185 : Tryzfi.get 185 = some Tryzfi185 := by rfl
theorem Tryzjoin185 : Tryzfi185.join = false := rfl
theorem Tryzres185 : Tryzfi185.results = Tryz.f185.results.toList := rfl
theorem Tryznt185 : Tryzfi185.ntmps = Tryz.f185.ntmps := rfl
theorem Tryzbody185 : Tryzfi185.body = (Tryz.f185.body).getD .skip := rfl
theorem TryzfiAt186 : Tryzfi.get 186 = some Tryzfi186 := by rfl
theorem Tryzjoin186 : Tryzfi186.join = false := rfl
theorem Tryzres186 : Tryzfi186.results = Tryz.f186.results.toList := rfl
theorem Tryznt186 : Tryzfi186.ntmps = Tryz.f186.ntmps := rfl
theorem Tryzbody186 : Tryzfi186.body = (Tryz.f186.body).getD .skip := rfl
theorem TryzfiAt187 : Tryzfi.get 187 = some Tryzfi187 := by rfl
theorem Tryzjoin187 : Tryzfi187.join = false := rfl
theorem Tryzres187 : Tryzfi187.results = Tryz.f187.results.toList := rfl
theorem Tryznt187 : Tryzfi187.ntmps = Tryz.f187.ntmps := rfl
theorem Tryzbody187 : Tryzfi187.body = (Tryz.f187.body).getD .skip := rfl
theorem TryzfiAt188 : Tryzfi.get 188 = some Tryzfi188 := by rfl
theorem Tryzjoin188 : Tryzfi188.join = false := rfl
theorem Tryzres188 : Tryzfi188.results = Tryz.f188.results.toList := rfl
theorem Tryznt188 : Tryzfi188.ntmps = Tryz.f188.ntmps := rfl
theorem Tryzbody188 : Tryzfi188.body = (Tryz.f188.body).getD .skip := rfl
theorem TryzfiAt189 : Tryzfi.get 189 = some Tryzfi189 := by rfl
theorem Tryzjoin189 : Tryzfi189.join = false := rfl
theorem Tryzres189 : Tryzfi189.results = Tryz.f189.results.toList := rfl
theorem Tryznt189 : Tryzfi189.ntmps = Tryz.f189.ntmps := rfl
theorem Tryzbody189 : Tryzfi189.body = (Tryz.f189.body).getD .skip := rfl
theorem TryzfiAt190 : Tryzfi.get 190 = some Tryzfi190 := by rfl
theorem Tryzjoin190 : Tryzfi190.join = false := rfl
theorem Tryzres190 : Tryzfi190.results = Tryz.f190.results.toList := rfl
theorem Tryznt190 : Tryzfi190.ntmps = Tryz.f190.ntmps := rfl
theorem Tryzbody190 : Tryzfi190.body = (Tryz.f190.body).getD .skip := rfl
theorem TryzfiAt191 : Tryzfi.get 191 = some Tryzfi191 := by rfl
theorem Tryzjoin191 : Tryzfi191.join = false := rfl
theorem Tryzres191 : Tryzfi191.results = Tryz.f191.results.toList := rfl
theorem Tryznt191 : Tryzfi191.ntmps = Tryz.f191.ntmps := rfl
theorem Tryzbody191 : Tryzfi191.body = (Tryz.f191.body).getD .skip := rfl
theorem TryzfiAt192 : Tryzfi.get 192 = some Tryzfi192 := by rfl
theorem Tryzjoin192 : Tryzfi192.join = false := rfl
theorem Tryzres192 : Tryzfi192.results = Tryz.f192.results.toList := rfl
theorem Tryznt192 : Tryzfi192.ntmps = Tryz.f192.ntmps := rfl
theorem Tryzbody192 : Tryzfi192.body = (Tryz.f192.body).getD .skip := rfl
theorem TryzfiAt193 : Tryzfi.get 193 = some Tryzfi193 := by rfl
theorem Tryzjoin193 : Tryzfi193.join = false := rfl
theorem Tryzres193 : Tryzfi193.results = Tryz.f193.results.toList := rfl
theorem Tryznt193 : Tryzfi193.ntmps = Tryz.f193.ntmps := rfl
theorem Tryzbody193 : Tryzfi193.body = (Tryz.f193.body).getD .skip := rfl
theorem TryzfiAt194 : Tryzfi.get 194 = some Tryzfi194 := by rfl
theorem Tryzjoin194 : Tryzfi194.join = false := rfl
theorem Tryzres194 : Tryzfi194.results = Tryz.f194.results.toList := rfl
theorem Tryznt194 : Tryzfi194.ntmps = Tryz.f194.ntmps := rfl
theorem Tryzbody194 : Tryzfi194.body = (Tryz.f194.body).getD .skip := rfl
theorem TryzfiAt195 : Tryzfi.get 195 = some Tryzfi195 := by rfl
theorem Tryzjoin195 : Tryzfi195.join = false := rfl
theorem Tryzres195 : Tryzfi195.results = Tryz.f195.results.toList := rfl
theorem Tryznt195 : Tryzfi195.ntmps = Tryz.f195.ntmps := rfl
theorem Tryzbody195 : Tryzfi195.body = (Tryz.f195.body).getD .skip := rfl
theorem TryzfiAt196 : Tryzfi.get 196 = some Tryzfi196 := by rfl
theorem Tryzjoin196 : Tryzfi196.join = true := rfl
theorem Tryzres196 : Tryzfi196.results = Tryz.f196.results.toList := rfl
theorem Tryznt196 : Tryzfi196.ntmps = Tryz.f196.ntmps := rfl
theorem Tryzbody196 : Tryzfi196.body = (Tryz.f196.body).getD .skip := rfl
theorem TryzfiAt197 : Tryzfi.get 197 = some Tryzfi197 := by rfl
theorem Tryzjoin197 : Tryzfi197.join = false := rfl
theorem Tryzres197 : Tryzfi197.results = Tryz.f197.results.toList := rfl
theorem Tryznt197 : Tryzfi197.ntmps = Tryz.f197.ntmps := rfl
theorem Tryzbody197 : Tryzfi197.body = (Tryz.f197.body).getD .skip := rfl
theorem TryzfiAt198 : Tryzfi.get 198 = some Tryzfi198 := by rfl
theorem Tryzjoin198 : Tryzfi198.join = false := rfl
theorem Tryzres198 : Tryzfi198.results = Tryz.f198.results.toList := rfl
theorem Tryznt198 : Tryzfi198.ntmps = Tryz.f198.ntmps := rfl
theorem Tryzbody198 : Tryzfi198.body = (Tryz.f198.body).getD .skip := rfl
theorem TryzfiAt199 : Tryzfi.get 199 = some Tryzfi199 := by rfl
theorem Tryzjoin199 : Tryzfi199.join = false := rfl
theorem Tryzres199 : Tryzfi199.results = Tryz.f199.results.toList := rfl
theorem Tryznt199 : Tryzfi199.ntmps = Tryz.f199.ntmps := rfl
theorem Tryzbody199 : Tryzfi199.body = (Tryz.f199.body).getD .skip := rfl
theorem TryzfiAt200 : Tryzfi.get 200 = some Tryzfi200 := by rfl
theorem Tryzjoin200 : Tryzfi200.join = false := rfl
theorem Tryzres200 : Tryzfi200.results = Tryz.f200.results.toList := rfl
theorem Tryznt200 : Tryzfi200.ntmps = Tryz.f200.ntmps := rfl
theorem Tryzbody200 : Tryzfi200.body = (Tryz.f200.body).getD .skip := rfl
theorem TryzfiAt201 : Tryzfi.get 201 = some Tryzfi201 := by rfl
theorem Tryzjoin201 : Tryzfi201.join = false := rfl
theorem Tryzres201 : Tryzfi201.results = Tryz.f201.results.toList := rfl
theorem Tryznt201 : Tryzfi201.ntmps = Tryz.f201.ntmps := rfl
theorem Tryzbody201 : Tryzfi201.body = (Tryz.f201.body).getD .skip := rfl
theorem TryzfiAt202 : Tryzfi.get 202 = some Tryzfi202 := by rfl
theorem Tryzjoin202 : Tryzfi202.join = false := rfl
theorem Tryzres202 : Tryzfi202.results = Tryz.f202.results.toList := rfl
theorem Tryznt202 : Tryzfi202.ntmps = Tryz.f202.ntmps := rfl
theorem Tryzbody202 : Tryzfi202.body = (Tryz.f202.body).getD .skip := rfl
theorem TryzfiAt203 : Tryzfi.get 203 = some Tryzfi203 := by rfl
theorem Tryzjoin203 : Tryzfi203.join = false := rfl
theorem Tryzres203 : Tryzfi203.results = Tryz.f203.results.toList := rfl
theorem Tryznt203 : Tryzfi203.ntmps = Tryz.f203.ntmps := rfl
theorem Tryzbody203 : Tryzfi203.body = (Tryz.f203.body).getD .skip := rfl
theorem TryzfiAt204 : Tryzfi.get 204 = some Tryzfi204 := by rfl
theorem Tryzjoin204 : Tryzfi204.join = false := rfl
theorem Tryzres204 : Tryzfi204.results = Tryz.f204.results.toList := rfl
theorem Tryznt204 : Tryzfi204.ntmps = Tryz.f204.ntmps := rfl
theorem Tryzbody204 : Tryzfi204.body = (Tryz.f204.body).getD .skip := rfl
theorem TryzfiAt205 : Tryzfi.get 205 = some Tryzfi205 := by rfl
theorem Tryzjoin205 : Tryzfi205.join = false := rfl
theorem Tryzres205 : Tryzfi205.results = Tryz.f205.results.toList := rfl
theorem Tryznt205 : Tryzfi205.ntmps = Tryz.f205.ntmps := rfl
theorem Tryzbody205 : Tryzfi205.body = (Tryz.f205.body).getD .skip := rfl
theorem TryzfiAt206 : Tryzfi.get 206 = some Tryzfi206 := by rfl
theorem Tryzjoin206 : Tryzfi206.join = false := rfl
theorem Tryzres206 : Tryzfi206.results = Tryz.f206.results.toList := rfl
theorem Tryznt206 : Tryzfi206.ntmps = Tryz.f206.ntmps := rfl
theorem Tryzbody206 : Tryzfi206.body = (Tryz.f206.body).getD .skip := rfl
theorem TryzfiAt207 : Tryzfi.get 207 = some Tryzfi207 := by rfl
theorem Tryzjoin207 : Tryzfi207.join = false := rfl
theorem Tryzres207 : Tryzfi207.results = Tryz.f207.results.toList := rfl
theorem Tryznt207 : Tryzfi207.ntmps = Tryz.f207.ntmps := rfl
theorem Tryzbody207 : Tryzfi207.body = (Tryz.f207.body).getD .skip := rfl
theorem TryzfiAt208 : Tryzfi.get 208 = some Tryzfi208 := by rfl
theorem Tryzjoin208 : Tryzfi208.join = false := rfl
theorem Tryzres208 : Tryzfi208.results = Tryz.f208.results.toList := rfl
theorem Tryznt208 : Tryzfi208.ntmps = Tryz.f208.ntmps := rfl
theorem Tryzbody208 : Tryzfi208.body = (Tryz.f208.body).getD .skip := rfl
theorem TryzfiAt209 : Tryzfi.get 209 = some Tryzfi209 := by rfl
theorem Tryzjoin209 : Tryzfi209.join = false := rfl
theorem Tryzres209 : Tryzfi209.results = Tryz.f209.results.toList := rfl
theorem Tryznt209 : Tryzfi209.ntmps = Tryz.f209.ntmps := rfl
theorem Tryzbody209 : Tryzfi209.body = (Tryz.f209.body).getD .skip := rfl
theorem TryzfiAt210 : Tryzfi.get 210 = some Tryzfi210 := by rfl
theorem Tryzjoin210 : Tryzfi210.join = false := rfl
theorem Tryzres210 : Tryzfi210.results = Tryz.f210.results.toList := rfl
theorem Tryznt210 : Tryzfi210.ntmps = Tryz.f210.ntmps := rfl
theorem Tryzbody210 : Tryzfi210.body = (Tryz.f210.body).getD .skip := rfl
theorem TryzfiAt211 : Tryzfi.get 211 = some Tryzfi211 := by rfl
theorem Tryzjoin211 : Tryzfi211.join = false := rfl
theorem Tryzres211 : Tryzfi211.results = Tryz.f211.results.toList := rfl
theorem Tryznt211 : Tryzfi211.ntmps = Tryz.f211.ntmps := rfl
theorem Tryzbody211 : Tryzfi211.body = (Tryz.f211.body).getD .skip := rfl
theorem TryzfiAt212 : Tryzfi.get 212 = some Tryzfi212 := by rfl
theorem Tryzjoin212 : Tryzfi212.join = false := rfl
theorem Tryzres212 : Tryzfi212.results = Tryz.f212.results.toList := rfl
theorem Tryznt212 : Tryzfi212.ntmps = Tryz.f212.ntmps := rfl
theorem Tryzbody212 : Tryzfi212.body = (Tryz.f212.body).getD .skip := rfl
theorem TryzfiAt213 : Tryzfi.get 213 = some Tryzfi213 := by rfl
theorem Tryzjoin213 : Tryzfi213.join = false := rfl
theorem Tryzres213 : Tryzfi213.results = Tryz.f213.results.toList := rfl
theorem Tryznt213 : Tryzfi213.ntmps = Tryz.f213.ntmps := rfl
theorem Tryzbody213 : Tryzfi213.body = (Tryz.f213.body).getD .skip := rfl
theorem TryzfiAt214 : Tryzfi.get 214 = some Tryzfi214 := by rfl
theorem Tryzjoin214 : Tryzfi214.join = false := rfl
theorem Tryzres214 : Tryzfi214.results = Tryz.f214.results.toList := rfl
theorem Tryznt214 : Tryzfi214.ntmps = Tryz.f214.ntmps := rfl
theorem Tryzbody214 : Tryzfi214.body = (Tryz.f214.body).getD .skip := rfl
theorem TryzfiAt215 : Tryzfi.get 215 = some Tryzfi215 := by rfl
theorem Tryzjoin215 : Tryzfi215.join = false := rfl
theorem Tryzres215 : Tryzfi215.results = Tryz.f215.results.toList := rfl
theorem Tryznt215 : Tryzfi215.ntmps = Tryz.f215.ntmps := rfl
theorem Tryzbody215 : Tryzfi215.body = (Tryz.f215.body).getD .skip := rfl
theorem TryzfiAt216 : Tryzfi.get 216 = some Tryzfi216 := by rfl
theorem Tryzjoin216 : Tryzfi216.join = false := rfl
theorem Tryzres216 : Tryzfi216.results = Tryz.f216.results.toList := rfl
theorem Tryznt216 : Tryzfi216.ntmps = Tryz.f216.ntmps := rfl
theorem Tryzbody216 : Tryzfi216.body = (Tryz.f216.body).getD .skip := rfl
theorem TryzfiAt217 : Tryzfi.get 217 = some Tryzfi217 := by rfl
theorem Tryzjoin217 : Tryzfi217.join = false := rfl
theorem Tryzres217 : Tryzfi217.results = Tryz.f217.results.toList := rfl
theorem Tryznt217 : Tryzfi217.ntmps = Tryz.f217.ntmps := rfl
theorem Tryzbody217 : Tryzfi217.body = (Tryz.f217.body).getD .skip := rfl
theorem TryzfiAt218 : Tryzfi.get 218 = some Tryzfi218 := by rfl
theorem Tryzjoin218 : Tryzfi218.join = false := rfl
theorem Tryzres218 : Tryzfi218.results = Tryz.f218.results.toList := rfl
theorem Tryznt218 : Tryzfi218.ntmps = Tryz.f218.ntmps := rfl
theorem Tryzbody218 : Tryzfi218.body = (Tryz.f218.body).getD .skip := rfl
theorem TryzfiAt219 : Tryzfi.get 219 = some Tryzfi219 := by rfl
theorem Tryzjoin219 : Tryzfi219.join = false := rfl
theorem Tryzres219 : Tryzfi219.results = Tryz.f219.results.toList := rfl
theorem Tryznt219 : Tryzfi219.ntmps = Tryz.f219.ntmps := rfl
theorem Tryzbody219 : Tryzfi219.body = (Tryz.f219.body).getD .skip := rfl
theorem TryzfiAt220 : Tryzfi.get 220 = some Tryzfi220 := by rfl
theorem Tryzjoin220 : Tryzfi220.join = false := rfl
theorem Tryzres220 : Tryzfi220.results = Tryz.f220.results.toList := rfl
theorem Tryznt220 : Tryzfi220.ntmps = Tryz.f220.ntmps := rfl
theorem Tryzbody220 : Tryzfi220.body = (Tryz.f220.body).getD .skip := rfl
theorem TryzfiAt221 : Tryzfi.get 221 = some Tryzfi221 := by rfl
theorem Tryzjoin221 : Tryzfi221.join = false := rfl
theorem Tryzres221 : Tryzfi221.results = Tryz.f221.results.toList := rfl
theorem Tryznt221 : Tryzfi221.ntmps = Tryz.f221.ntmps := rfl
theorem Tryzbody221 : Tryzfi221.body = (Tryz.f221.body).getD .skip := rfl
theorem TryzfiAt222 : Tryzfi.get 222 = some Tryzfi222 := by rfl
theorem Tryzjoin222 : Tryzfi222.join = false := rfl
theorem Tryzres222 : Tryzfi222.results = Tryz.f222.results.toList := rfl
theorem Tryznt222 : Tryzfi222.ntmps = Tryz.f222.ntmps := rfl
theorem Tryzbody222 : Tryzfi222.body = (Tryz.f222.body).getD .skip := rfl
theorem TryzfiAt223 : Tryzfi.get 223 = some Tryzfi223 := by rfl
theorem Tryzjoin223 : Tryzfi223.join = false := rfl
theorem Tryzres223 : Tryzfi223.results = Tryz.f223.results.toList := rfl
theorem Tryznt223 : Tryzfi223.ntmps = Tryz.f223.ntmps := rfl
theorem Tryzbody223 : Tryzfi223.body = (Tryz.f223.body).getD .skip := rfl
theorem TryzfiAt224 : Tryzfi.get 224 = some Tryzfi224 := by rfl
theorem Tryzjoin224 : Tryzfi224.join = false := rfl
theorem Tryzres224 : Tryzfi224.results = Tryz.f224.results.toList := rfl
theorem Tryznt224 : Tryzfi224.ntmps = Tryz.f224.ntmps := rfl
theorem Tryzbody224 : Tryzfi224.body = (Tryz.f224.body).getD .skip := rfl
theorem TryzfiAt225 : Tryzfi.get 225 = some Tryzfi225 := by rfl
theorem Tryzjoin225 : Tryzfi225.join = false := rfl
theorem Tryzres225 : Tryzfi225.results = Tryz.f225.results.toList := rfl
theorem Tryznt225 : Tryzfi225.ntmps = Tryz.f225.ntmps := rfl
theorem Tryzbody225 : Tryzfi225.body = (Tryz.f225.body).getD .skip := rfl
theorem TryzfiAt226 : Tryzfi.get 226 = some Tryzfi226 := by rfl
theorem Tryzjoin226 : Tryzfi226.join = false := rfl
theorem Tryzres226 : Tryzfi226.results = Tryz.f226.results.toList := rfl
theorem Tryznt226 : Tryzfi226.ntmps = Tryz.f226.ntmps := rfl
theorem Tryzbody226 : Tryzfi226.body = (Tryz.f226.body).getD .skip := rfl
theorem TryzfiAt227 : Tryzfi.get 227 = some Tryzfi227 := by rfl
theorem Tryzjoin227 : Tryzfi227.join = false := rfl
theorem Tryzres227 : Tryzfi227.results = Tryz.f227.results.toList := rfl
theorem Tryznt227 : Tryzfi227.ntmps = Tryz.f227.ntmps := rfl
theorem Tryzbody227 : Tryzfi227.body = (Tryz.f227.body).getD .skip := rfl
theorem TryzfiAt228 : Tryzfi.get 228 = some Tryzfi228 := by rfl
theorem Tryzjoin228 : Tryzfi228.join = false := rfl
theorem Tryzres228 : Tryzfi228.results = Tryz.f228.results.toList := rfl
theorem Tryznt228 : Tryzfi228.ntmps = Tryz.f228.ntmps := rfl
theorem Tryzbody228 : Tryzfi228.body = (Tryz.f228.body).getD .skip := rfl
theorem TryzfiAt229 : Tryzfi.get 229 = some Tryzfi229 := by rfl
theorem Tryzjoin229 : Tryzfi229.join = false := rfl
theorem Tryzres229 : Tryzfi229.results = Tryz.f229.results.toList := rfl
theorem Tryznt229 : Tryzfi229.ntmps = Tryz.f229.ntmps := rfl
theorem Tryzbody229 : Tryzfi229.body = (Tryz.f229.body).getD .skip := rfl
theorem TryzfiAt230 : Tryzfi.get 230 = some Tryzfi230 := by rfl
theorem Tryzjoin230 : Tryzfi230.join = false := rfl
theorem Tryzres230 : Tryzfi230.results = Tryz.f230.results.toList := rfl
theorem Tryznt230 : Tryzfi230.ntmps = Tryz.f230.ntmps := rfl
theorem Tryzbody230 : Tryzfi230.body = (Tryz.f230.body).getD .skip := rfl
theorem TryzfiAt231 : Tryzfi.get 231 = some Tryzfi231 := by rfl
theorem Tryzjoin231 : Tryzfi231.join = false := rfl
theorem Tryzres231 : Tryzfi231.results = Tryz.f231.results.toList := rfl
theorem Tryznt231 : Tryzfi231.ntmps = Tryz.f231.ntmps := rfl
theorem Tryzbody231 : Tryzfi231.body = (Tryz.f231.body).getD .skip := rfl
theorem TryzfiAt232 : Tryzfi.get 232 = some Tryzfi232 := by rfl
theorem Tryzjoin232 : Tryzfi232.join = false := rfl
theorem Tryzres232 : Tryzfi232.results = Tryz.f232.results.toList := rfl
theorem Tryznt232 : Tryzfi232.ntmps = Tryz.f232.ntmps := rfl
theorem Tryzbody232 : Tryzfi232.body = (Tryz.f232.body).getD .skip := rfl
theorem TryzfiAt233 : Tryzfi.get 233 = some Tryzfi233 := by rfl
theorem Tryzjoin233 : Tryzfi233.join = false := rfl
theorem Tryzres233 : Tryzfi233.results = Tryz.f233.results.toList := rfl
theorem Tryznt233 : Tryzfi233.ntmps = Tryz.f233.ntmps := rfl
theorem Tryzbody233 : Tryzfi233.body = (Tryz.f233.body).getD .skip := rfl
theorem TryzfiAt234 : Tryzfi.get 234 = some Tryzfi234 := by rfl
theorem Tryzjoin234 : Tryzfi234.join = false := rfl
theorem Tryzres234 : Tryzfi234.results = Tryz.f234.results.toList := rfl
theorem Tryznt234 : Tryzfi234.ntmps = Tryz.f234.ntmps := rfl
theorem Tryzbody234 : Tryzfi234.body = (Tryz.f234.body).getD .skip := rfl
theorem TryzfiAt235 : Tryzfi.get 235 = some Tryzfi235 := by rfl
theorem Tryzjoin235 : Tryzfi235.join = false := rfl
theorem Tryzres235 : Tryzfi235.results = Tryz.f235.results.toList := rfl
theorem Tryznt235 : Tryzfi235.ntmps = Tryz.f235.ntmps := rfl
theorem Tryzbody235 : Tryzfi235.body = (Tryz.f235.body).getD .skip := rfl
theorem TryzfiAt236 : Tryzfi.get 236 = some Tryzfi236 := by rfl
theorem Tryzjoin236 : Tryzfi236.join = false := rfl
theorem Tryzres236 : Tryzfi236.results = Tryz.f236.results.toList := rfl
theorem Tryznt236 : Tryzfi236.ntmps = Tryz.f236.ntmps := rfl
theorem Tryzbody236 : Tryzfi236.body = (Tryz.f236.body).getD .skip := rfl
theorem TryzfiAt237 : Tryzfi.get 237 = some Tryzfi237 := by rfl
theorem Tryzjoin237 : Tryzfi237.join = false := rfl
theorem Tryzres237 : Tryzfi237.results = Tryz.f237.results.toList := rfl
theorem Tryznt237 : Tryzfi237.ntmps = Tryz.f237.ntmps := rfl
theorem Tryzbody237 : Tryzfi237.body = (Tryz.f237.body).getD .skip := rfl
theorem TryzfiAt238 : Tryzfi.get 238 = some Tryzfi238 := by rfl
theorem Tryzjoin238 : Tryzfi238.join = false := rfl
theorem Tryzres238 : Tryzfi238.results = Tryz.f238.results.toList := rfl
theorem Tryznt238 : Tryzfi238.ntmps = Tryz.f238.ntmps := rfl
theorem Tryzbody238 : Tryzfi238.body = (Tryz.f238.body).getD .skip := rfl
theorem TryzfiAt239 : Tryzfi.get 239 = some Tryzfi239 := by rfl
theorem Tryzjoin239 : Tryzfi239.join = false := rfl
theorem Tryzres239 : Tryzfi239.results = Tryz.f239.results.toList := rfl
theorem Tryznt239 : Tryzfi239.ntmps = Tryz.f239.ntmps := rfl
theorem Tryzbody239 : Tryzfi239.body = (Tryz.f239.body).getD .skip := rfl
theorem TryzfiAt240 : Tryzfi.get 240 = some Tryzfi240 := by rfl
theorem Tryzjoin240 : Tryzfi240.join = false := rfl
theorem Tryzres240 : Tryzfi240.results = Tryz.f240.results.toList := rfl
theorem Tryznt240 : Tryzfi240.ntmps = Tryz.f240.ntmps := rfl
theorem Tryzbody240 : Tryzfi240.body = (Tryz.f240.body).getD .skip := rfl
theorem TryzfiAt241 : Tryzfi.get 241 = some Tryzfi241 := by rfl
theorem Tryzjoin241 : Tryzfi241.join = false := rfl
theorem Tryzres241 : Tryzfi241.results = Tryz.f241.results.toList := rfl
theorem Tryznt241 : Tryzfi241.ntmps = Tryz.f241.ntmps := rfl
theorem Tryzbody241 : Tryzfi241.body = (Tryz.f241.body).getD .skip := rfl
theorem TryzfiAt242 : Tryzfi.get 242 = some Tryzfi242 := by rfl
theorem Tryzjoin242 : Tryzfi242.join = false := rfl
theorem Tryzres242 : Tryzfi242.results = Tryz.f242.results.toList := rfl
theorem Tryznt242 : Tryzfi242.ntmps = Tryz.f242.ntmps := rfl
theorem Tryzbody242 : Tryzfi242.body = (Tryz.f242.body).getD .skip := rfl
theorem TryzfiAt243 : Tryzfi.get 243 = some Tryzfi243 := by rfl
theorem Tryzjoin243 : Tryzfi243.join = false := rfl
theorem Tryzres243 : Tryzfi243.results = Tryz.f243.results.toList := rfl
theorem Tryznt243 : Tryzfi243.ntmps = Tryz.f243.ntmps := rfl
theorem Tryzbody243 : Tryzfi243.body = (Tryz.f243.body).getD .skip := rfl
theorem TryzfiAt244 : Tryzfi.get 244 = some Tryzfi244 := by rfl
theorem Tryzjoin244 : Tryzfi244.join = false := rfl
theorem Tryzres244 : Tryzfi244.results = Tryz.f244.results.toList := rfl
theorem Tryznt244 : Tryzfi244.ntmps = Tryz.f244.ntmps := rfl
theorem Tryzbody244 : Tryzfi244.body = (Tryz.f244.body).getD .skip := rfl
theorem TryzfiAt245 : Tryzfi.get 245 = some Tryzfi245 := by rfl
theorem Tryzjoin245 : Tryzfi245.join = false := rfl
theorem Tryzres245 : Tryzfi245.results = Tryz.f245.results.toList := rfl
theorem Tryznt245 : Tryzfi245.ntmps = Tryz.f245.ntmps := rfl
theorem Tryzbody245 : Tryzfi245.body = (Tryz.f245.body).getD .skip := rfl
theorem TryzfiAt246 : Tryzfi.get 246 = some Tryzfi246 := by rfl
theorem Tryzjoin246 : Tryzfi246.join = false := rfl
theorem Tryzres246 : Tryzfi246.results = Tryz.f246.results.toList := rfl
theorem Tryznt246 : Tryzfi246.ntmps = Tryz.f246.ntmps := rfl
theorem Tryzbody246 : Tryzfi246.body = (Tryz.f246.body).getD .skip := rfl
theorem TryzfiAt247 : Tryzfi.get 247 = some Tryzfi247 := by rfl
theorem Tryzjoin247 : Tryzfi247.join = false := rfl
theorem Tryzres247 : Tryzfi247.results = Tryz.f247.results.toList := rfl
theorem Tryznt247 : Tryzfi247.ntmps = Tryz.f247.ntmps := rfl
theorem Tryzbody247 : Tryzfi247.body = (Tryz.f247.body).getD .skip := rfl
theorem TryzfiAt248 : Tryzfi.get 248 = some Tryzfi248 := by rfl
theorem Tryzjoin248 : Tryzfi248.join = false := rfl
theorem Tryzres248 : Tryzfi248.results = Tryz.f248.results.toList := rfl
theorem Tryznt248 : Tryzfi248.ntmps = Tryz.f248.ntmps := rfl
theorem Tryzbody248 : Tryzfi248.body = (Tryz.f248.body).getD .skip := rfl
theorem TryzfiAt249 : Tryzfi.get 249 = some Tryzfi249 := by rfl
theorem Tryzjoin249 : Tryzfi249.join = false := rfl
theorem Tryzres249 : Tryzfi249.results = Tryz.f249.results.toList := rfl
theorem Tryznt249 : Tryzfi249.ntmps = Tryz.f249.ntmps := rfl
theorem Tryzbody249 : Tryzfi249.body = (Tryz.f249.body).getD .skip := rfl
theorem TryzfiAt250 : Tryzfi.get 250 = some Tryzfi250 := by rfl
theorem Tryzjoin250 : Tryzfi250.join = false := rfl
theorem Tryzres250 : Tryzfi250.results = Tryz.f250.results.toList := rfl
theorem Tryznt250 : Tryzfi250.ntmps = Tryz.f250.ntmps := rfl
theorem Tryzbody250 : Tryzfi250.body = (Tryz.f250.body).getD .skip := rfl
theorem TryzfiAt251 : Tryzfi.get 251 = some Tryzfi251 := by rfl
theorem Tryzjoin251 : Tryzfi251.join = false := rfl
theorem Tryzres251 : Tryzfi251.results = Tryz.f251.results.toList := rfl
theorem Tryznt251 : Tryzfi251.ntmps = Tryz.f251.ntmps := rfl
theorem Tryzbody251 : Tryzfi251.body = (Tryz.f251.body).getD .skip := rfl
theorem TryzfiAt252 : Tryzfi.get 252 = some Tryzfi252 := by rfl
theorem Tryzjoin252 : Tryzfi252.join = false := rfl
theorem Tryzres252 : Tryzfi252.results = Tryz.f252.results.toList := rfl
theorem Tryznt252 : Tryzfi252.ntmps = Tryz.f252.ntmps := rfl
theorem Tryzbody252 : Tryzfi252.body = (Tryz.f252.body).getD .skip := rfl
theorem TryzfiAt253 : Tryzfi.get 253 = some Tryzfi253 := by rfl
theorem Tryzjoin253 : Tryzfi253.join = false := rfl
theorem Tryzres253 : Tryzfi253.results = Tryz.f253.results.toList := rfl
theorem Tryznt253 : Tryzfi253.ntmps = Tryz.f253.ntmps := rfl
theorem Tryzbody253 : Tryzfi253.body = (Tryz.f253.body).getD .skip := rfl
theorem TryzfiAt254 : Tryzfi.get 254 = some Tryzfi254 := by rfl
theorem Tryzjoin254 : Tryzfi254.join = false := rfl
theorem Tryzres254 : Tryzfi254.results = Tryz.f254.results.toList := rfl
theorem Tryznt254 : Tryzfi254.ntmps = Tryz.f254.ntmps := rfl
theorem Tryzbody254 : Tryzfi254.body = (Tryz.f254.body).getD .skip := rfl
theorem TryzfiAt255 : Tryzfi.get 255 = some Tryzfi255 := by rfl
theorem Tryzjoin255 : Tryzfi255.join = false := rfl
theorem Tryzres255 : Tryzfi255.results = Tryz.f255.results.toList := rfl
theorem Tryznt255 : Tryzfi255.ntmps = Tryz.f255.ntmps := rfl
theorem Tryzbody255 : Tryzfi255.body = (Tryz.f255.body).getD .skip := rfl
theorem TryzfiAt256 : Tryzfi.get 256 = some Tryzfi256 := by rfl
theorem Tryzjoin256 : Tryzfi256.join = false := rfl
theorem Tryzres256 : Tryzfi256.results = Tryz.f256.results.toList := rfl
theorem Tryznt256 : Tryzfi256.ntmps = Tryz.f256.ntmps := rfl
theorem Tryzbody256 : Tryzfi256.body = (Tryz.f256.body).getD .skip := rfl
theorem TryzfiAt257 : Tryzfi.get 257 = some Tryzfi257 := by rfl
theorem Tryzjoin257 : Tryzfi257.join = false := rfl
theorem Tryzres257 : Tryzfi257.results = Tryz.f257.results.toList := rfl
theorem Tryznt257 : Tryzfi257.ntmps = Tryz.f257.ntmps := rfl
theorem Tryzbody257 : Tryzfi257.body = (Tryz.f257.body).getD .skip := rfl
theorem TryzfiAt258 : Tryzfi.get 258 = some Tryzfi258 := by rfl
theorem Tryzjoin258 : Tryzfi258.join = false := rfl
theorem Tryzres258 : Tryzfi258.results = Tryz.f258.results.toList := rfl
theorem Tryznt258 : Tryzfi258.ntmps = Tryz.f258.ntmps := rfl
theorem Tryzbody258 : Tryzfi258.body = (Tryz.f258.body).getD .skip := rfl
theorem TryzfiAt259 : Tryzfi.get 259 = some Tryzfi259 := by rfl
theorem Tryzjoin259 : Tryzfi259.join = false := rfl
theorem Tryzres259 : Tryzfi259.results = Tryz.f259.results.toList := rfl
theorem Tryznt259 : Tryzfi259.ntmps = Tryz.f259.ntmps := rfl
theorem Tryzbody259 : Tryzfi259.body = (Tryz.f259.body).getD .skip := rfl
theorem TryzfiAt260 : Tryzfi.get 260 = some Tryzfi260 := by rfl
theorem Tryzjoin260 : Tryzfi260.join = false := rfl
theorem Tryzres260 : Tryzfi260.results = Tryz.f260.results.toList := rfl
theorem Tryznt260 : Tryzfi260.ntmps = Tryz.f260.ntmps := rfl
theorem Tryzbody260 : Tryzfi260.body = (Tryz.f260.body).getD .skip := rfl
theorem TryzfiAt261 : Tryzfi.get 261 = some Tryzfi261 := by rfl
theorem Tryzjoin261 : Tryzfi261.join = false := rfl
theorem Tryzres261 : Tryzfi261.results = Tryz.f261.results.toList := rfl
theorem Tryznt261 : Tryzfi261.ntmps = Tryz.f261.ntmps := rfl
theorem Tryzbody261 : Tryzfi261.body = (Tryz.f261.body).getD .skip := rfl
theorem TryzfiAt262 : Tryzfi.get 262 = some Tryzfi262 := by rfl
theorem Tryzjoin262 : Tryzfi262.join = false := rfl
theorem Tryzres262 : Tryzfi262.results = Tryz.f262.results.toList := rfl
theorem Tryznt262 : Tryzfi262.ntmps = Tryz.f262.ntmps := rfl
theorem Tryzbody262 : Tryzfi262.body = (Tryz.f262.body).getD .skip := rfl
theorem TryzfiAt263 : Tryzfi.get 263 = some Tryzfi263 := by rfl
theorem Tryzjoin263 : Tryzfi263.join = false := rfl
theorem Tryzres263 : Tryzfi263.results = Tryz.f263.results.toList := rfl
theorem Tryznt263 : Tryzfi263.ntmps = Tryz.f263.ntmps := rfl
theorem Tryzbody263 : Tryzfi263.body = (Tryz.f263.body).getD .skip := rfl
theorem TryzfiAt264 : Tryzfi.get 264 = some Tryzfi264 := by rfl
theorem Tryzjoin264 : Tryzfi264.join = false := rfl
theorem Tryzres264 : Tryzfi264.results = Tryz.f264.results.toList := rfl
theorem Tryznt264 : Tryzfi264.ntmps = Tryz.f264.ntmps := rfl
theorem Tryzbody264 : Tryzfi264.body = (Tryz.f264.body).getD .skip := rfl
theorem TryzfiAt265 : Tryzfi.get 265 = some Tryzfi265 := by rfl
theorem Tryzjoin265 : Tryzfi265.join = false := rfl
theorem Tryzres265 : Tryzfi265.results = Tryz.f265.results.toList := rfl
theorem Tryznt265 : Tryzfi265.ntmps = Tryz.f265.ntmps := rfl
theorem Tryzbody265 : Tryzfi265.body = (Tryz.f265.body).getD .skip := rfl
theorem TryzfiAt266 : Tryzfi.get 266 = some Tryzfi266 := by rfl
theorem Tryzjoin266 : Tryzfi266.join = false := rfl
theorem Tryzres266 : Tryzfi266.results = Tryz.f266.results.toList := rfl
theorem Tryznt266 : Tryzfi266.ntmps = Tryz.f266.ntmps := rfl
theorem Tryzbody266 : Tryzfi266.body = (Tryz.f266.body).getD .skip := rfl
theorem TryzfiAt267 : Tryzfi.get 267 = some Tryzfi267 := by rfl
theorem Tryzjoin267 : Tryzfi267.join = false := rfl
theorem Tryzres267 : Tryzfi267.results = Tryz.f267.results.toList := rfl
theorem Tryznt267 : Tryzfi267.ntmps = Tryz.f267.ntmps := rfl
theorem Tryzbody267 : Tryzfi267.body = (Tryz.f267.body).getD .skip := rfl
theorem TryzfiAt268 : Tryzfi.get 268 = some Tryzfi268 := by rfl
theorem Tryzjoin268 : Tryzfi268.join = false := rfl
theorem Tryzres268 : Tryzfi268.results = Tryz.f268.results.toList := rfl
theorem Tryznt268 : Tryzfi268.ntmps = Tryz.f268.ntmps := rfl
theorem Tryzbody268 : Tryzfi268.body = (Tryz.f268.body).getD .skip := rfl
theorem TryzfiAt269 : Tryzfi.get 269 = some Tryzfi269 := by rfl
theorem Tryzjoin269 : Tryzfi269.join = false := rfl
theorem Tryzres269 : Tryzfi269.results = Tryz.f269.results.toList := rfl
theorem Tryznt269 : Tryzfi269.ntmps = Tryz.f269.ntmps := rfl
theorem Tryzbody269 : Tryzfi269.body = (Tryz.f269.body).getD .skip := rfl
theorem TryzfiAt270 : Tryzfi.get 270 = some Tryzfi270 := by rfl
theorem Tryzjoin270 : Tryzfi270.join = false := rfl
theorem Tryzres270 : Tryzfi270.results = Tryz.f270.results.toList := rfl
theorem Tryznt270 : Tryzfi270.ntmps = Tryz.f270.ntmps := rfl
theorem Tryzbody270 : Tryzfi270.body = (Tryz.f270.body).getD .skip := rfl
theorem TryzfiAt271 : Tryzfi.get 271 = some Tryzfi271 := by rfl
theorem Tryzjoin271 : Tryzfi271.join = false := rfl
theorem Tryzres271 : Tryzfi271.results = Tryz.f271.results.toList := rfl
theorem Tryznt271 : Tryzfi271.ntmps = Tryz.f271.ntmps := rfl
theorem Tryzbody271 : Tryzfi271.body = (Tryz.f271.body).getD .skip := rfl
theorem TryzfiAt272 : Tryzfi.get 272 = some Tryzfi272 := by rfl
theorem Tryzjoin272 : Tryzfi272.join = false := rfl
theorem Tryzres272 : Tryzfi272.results = Tryz.f272.results.toList := rfl
theorem Tryznt272 : Tryzfi272.ntmps = Tryz.f272.ntmps := rfl
theorem Tryzbody272 : Tryzfi272.body = (Tryz.f272.body).getD .skip := rfl
theorem TryzfiAt273 : Tryzfi.get 273 = some Tryzfi273 := by rfl
theorem Tryzjoin273 : Tryzfi273.join = false := rfl
theorem Tryzres273 : Tryzfi273.results = Tryz.f273.results.toList := rfl
theorem Tryznt273 : Tryzfi273.ntmps = Tryz.f273.ntmps := rfl
theorem Tryzbody273 : Tryzfi273.body = (Tryz.f273.body).getD .skip := rfl
theorem TryzfiAt274 : Tryzfi.get 274 = some Tryzfi274 := by rfl
theorem Tryzjoin274 : Tryzfi274.join = false := rfl
theorem Tryzres274 : Tryzfi274.results = Tryz.f274.results.toList := rfl
theorem Tryznt274 : Tryzfi274.ntmps = Tryz.f274.ntmps := rfl
theorem Tryzbody274 : Tryzfi274.body = (Tryz.f274.body).getD .skip := rfl
theorem TryzfiAt275 : Tryzfi.get 275 = some Tryzfi275 := by rfl
theorem Tryzjoin275 : Tryzfi275.join = false := rfl
theorem Tryzres275 : Tryzfi275.results = Tryz.f275.results.toList := rfl
theorem Tryznt275 : Tryzfi275.ntmps = Tryz.f275.ntmps := rfl
theorem Tryzbody275 : Tryzfi275.body = (Tryz.f275.body).getD .skip := rfl
theorem TryzfiAt276 : Tryzfi.get 276 = some Tryzfi276 := by rfl
theorem Tryzjoin276 : Tryzfi276.join = false := rfl
theorem Tryzres276 : Tryzfi276.results = Tryz.f276.results.toList := rfl
theorem Tryznt276 : Tryzfi276.ntmps = Tryz.f276.ntmps := rfl
theorem Tryzbody276 : Tryzfi276.body = (Tryz.f276.body).getD .skip := rfl
theorem TryzfiAt277 : Tryzfi.get 277 = some Tryzfi277 := by rfl
theorem Tryzjoin277 : Tryzfi277.join = false := rfl
theorem Tryzres277 : Tryzfi277.results = Tryz.f277.results.toList := rfl
theorem Tryznt277 : Tryzfi277.ntmps = Tryz.f277.ntmps := rfl
theorem Tryzbody277 : Tryzfi277.body = (Tryz.f277.body).getD .skip := rfl
theorem TryzfiAt278 : Tryzfi.get 278 = some Tryzfi278 := by rfl
theorem Tryzjoin278 : Tryzfi278.join = false := rfl
theorem Tryzres278 : Tryzfi278.results = Tryz.f278.results.toList := rfl
theorem Tryznt278 : Tryzfi278.ntmps = Tryz.f278.ntmps := rfl
theorem Tryzbody278 : Tryzfi278.body = (Tryz.f278.body).getD .skip := rfl
theorem TryzfiAt279 : Tryzfi.get 279 = some Tryzfi279 := by rfl
theorem Tryzjoin279 : Tryzfi279.join = false := rfl
theorem Tryzres279 : Tryzfi279.results = Tryz.f279.results.toList := rfl
theorem Tryznt279 : Tryzfi279.ntmps = Tryz.f279.ntmps := rfl
theorem Tryzbody279 : Tryzfi279.body = (Tryz.f279.body).getD .skip := rfl
theorem TryzfiAt280 : Tryzfi.get 280 = some Tryzfi280 := by rfl
theorem Tryzjoin280 : Tryzfi280.join = false := rfl
theorem Tryzres280 : Tryzfi280.results = Tryz.f280.results.toList := rfl
theorem Tryznt280 : Tryzfi280.ntmps = Tryz.f280.ntmps := rfl
theorem Tryzbody280 : Tryzfi280.body = (Tryz.f280.body).getD .skip := rfl
theorem TryzfiAt281 : Tryzfi.get 281 = some Tryzfi281 := by rfl
theorem Tryzjoin281 : Tryzfi281.join = false := rfl
theorem Tryzres281 : Tryzfi281.results = Tryz.f281.results.toList := rfl
theorem Tryznt281 : Tryzfi281.ntmps = Tryz.f281.ntmps := rfl
theorem Tryzbody281 : Tryzfi281.body = (Tryz.f281.body).getD .skip := rfl
theorem TryzfiAt282 : Tryzfi.get 282 = some Tryzfi282 := by rfl
theorem Tryzjoin282 : Tryzfi282.join = false := rfl
theorem Tryzres282 : Tryzfi282.results = Tryz.f282.results.toList := rfl
theorem Tryznt282 : Tryzfi282.ntmps = Tryz.f282.ntmps := rfl
theorem Tryzbody282 : Tryzfi282.body = (Tryz.f282.body).getD .skip := rfl
theorem TryzfiAt283 : Tryzfi.get 283 = some Tryzfi283 := by rfl
theorem Tryzjoin283 : Tryzfi283.join = false := rfl
theorem Tryzres283 : Tryzfi283.results = Tryz.f283.results.toList := rfl
theorem Tryznt283 : Tryzfi283.ntmps = Tryz.f283.ntmps := rfl
theorem Tryzbody283 : Tryzfi283.body = (Tryz.f283.body).getD .skip := rfl
theorem TryzfiAt284 : Tryzfi.get 284 = some Tryzfi284 := by rfl
theorem Tryzjoin284 : Tryzfi284.join = false := rfl
theorem Tryzres284 : Tryzfi284.results = Tryz.f284.results.toList := rfl
theorem Tryznt284 : Tryzfi284.ntmps = Tryz.f284.ntmps := rfl
theorem Tryzbody284 : Tryzfi284.body = (Tryz.f284.body).getD .skip := rfl
theorem TryzfiAt285 : Tryzfi.get 285 = some Tryzfi285 := by rfl
theorem Tryzjoin285 : Tryzfi285.join = false := rfl
theorem Tryzres285 : Tryzfi285.results = Tryz.f285.results.toList := rfl
theorem Tryznt285 : Tryzfi285.ntmps = Tryz.f285.ntmps := rfl
theorem Tryzbody285 : Tryzfi285.body = (Tryz.f285.body).getD .skip := rfl
theorem TryzfiAt286 : Tryzfi.get 286 = some Tryzfi286 := by rfl
theorem Tryzjoin286 : Tryzfi286.join = false := rfl
theorem Tryzres286 : Tryzfi286.results = Tryz.f286.results.toList := rfl
theorem Tryznt286 : Tryzfi286.ntmps = Tryz.f286.ntmps := rfl
theorem Tryzbody286 : Tryzfi286.body = (Tryz.f286.body).getD .skip := rfl
theorem TryzfiAt287 : Tryzfi.get 287 = some Tryzfi287 := by rfl
theorem Tryzjoin287 : Tryzfi287.join = false := rfl
theorem Tryzres287 : Tryzfi287.results = Tryz.f287.results.toList := rfl
theorem Tryznt287 : Tryzfi287.ntmps = Tryz.f287.ntmps := rfl
theorem Tryzbody287 : Tryzfi287.body = (Tryz.f287.body).getD .skip := rfl
theorem TryzfiAt288 : Tryzfi.get 288 = some Tryzfi288 := by rfl
theorem Tryzjoin288 : Tryzfi288.join = false := rfl
theorem Tryzres288 : Tryzfi288.results = Tryz.f288.results.toList := rfl
theorem Tryznt288 : Tryzfi288.ntmps = Tryz.f288.ntmps := rfl
theorem Tryzbody288 : Tryzfi288.body = (Tryz.f288.body).getD .skip := rfl
theorem TryzfiAt289 : Tryzfi.get 289 = some Tryzfi289 := by rfl
theorem Tryzjoin289 : Tryzfi289.join = false := rfl
theorem Tryzres289 : Tryzfi289.results = Tryz.f289.results.toList := rfl
theorem Tryznt289 : Tryzfi289.ntmps = Tryz.f289.ntmps := rfl
theorem Tryzbody289 : Tryzfi289.body = (Tryz.f289.body).getD .skip := rfl
theorem TryzfiAt290 : Tryzfi.get 290 = some Tryzfi290 := by rfl
theorem Tryzjoin290 : Tryzfi290.join = false := rfl
theorem Tryzres290 : Tryzfi290.results = Tryz.f290.results.toList := rfl
theorem Tryznt290 : Tryzfi290.ntmps = Tryz.f290.ntmps := rfl
theorem Tryzbody290 : Tryzfi290.body = (Tryz.f290.body).getD .skip := rfl
theorem TryzfiAt291 : Tryzfi.get 291 = some Tryzfi291 := by rfl
theorem Tryzjoin291 : Tryzfi291.join = false := rfl
theorem Tryzres291 : Tryzfi291.results = Tryz.f291.results.toList := rfl
theorem Tryznt291 : Tryzfi291.ntmps = Tryz.f291.ntmps := rfl
theorem Tryzbody291 : Tryzfi291.body = (Tryz.f291.body).getD .skip := rfl
theorem TryzfiAt292 : Tryzfi.get 292 = some Tryzfi292 := by rfl
theorem Tryzjoin292 : Tryzfi292.join = false := rfl
theorem Tryzres292 : Tryzfi292.results = Tryz.f292.results.toList := rfl
theorem Tryznt292 : Tryzfi292.ntmps = Tryz.f292.ntmps := rfl
theorem Tryzbody292 : Tryzfi292.body = (Tryz.f292.body).getD .skip := rfl
theorem TryzfiAt293 : Tryzfi.get 293 = some Tryzfi293 := by rfl
theorem Tryzjoin293 : Tryzfi293.join = false := rfl
theorem Tryzres293 : Tryzfi293.results = Tryz.f293.results.toList := rfl
theorem Tryznt293 : Tryzfi293.ntmps = Tryz.f293.ntmps := rfl
theorem Tryzbody293 : Tryzfi293.body = (Tryz.f293.body).getD .skip := rfl
theorem TryzfiAt294 : Tryzfi.get 294 = some Tryzfi294 := by rfl
theorem Tryzjoin294 : Tryzfi294.join = false := rfl
theorem Tryzres294 : Tryzfi294.results = Tryz.f294.results.toList := rfl
theorem Tryznt294 : Tryzfi294.ntmps = Tryz.f294.ntmps := rfl
theorem Tryzbody294 : Tryzfi294.body = (Tryz.f294.body).getD .skip := rfl
theorem TryzfiAt295 : Tryzfi.get 295 = some Tryzfi295 := by rfl
theorem Tryzjoin295 : Tryzfi295.join = false := rfl
theorem Tryzres295 : Tryzfi295.results = Tryz.f295.results.toList := rfl
theorem Tryznt295 : Tryzfi295.ntmps = Tryz.f295.ntmps := rfl
theorem Tryzbody295 : Tryzfi295.body = (Tryz.f295.body).getD .skip := rfl
theorem TryzfiAt296 : Tryzfi.get 296 = some Tryzfi296 := by rfl
theorem Tryzjoin296 : Tryzfi296.join = false := rfl
theorem Tryzres296 : Tryzfi296.results = Tryz.f296.results.toList := rfl
theorem Tryznt296 : Tryzfi296.ntmps = Tryz.f296.ntmps := rfl
theorem Tryzbody296 : Tryzfi296.body = (Tryz.f296.body).getD .skip := rfl
theorem TryzfiAt297 : Tryzfi.get 297 = some Tryzfi297 := by rfl
theorem Tryzjoin297 : Tryzfi297.join = false := rfl
theorem Tryzres297 : Tryzfi297.results = Tryz.f297.results.toList := rfl
theorem Tryznt297 : Tryzfi297.ntmps = Tryz.f297.ntmps := rfl
theorem Tryzbody297 : Tryzfi297.body = (Tryz.f297.body).getD .skip := rfl
theorem TryzfiAt298 : Tryzfi.get 298 = some Tryzfi298 := by rfl
theorem Tryzjoin298 : Tryzfi298.join = false := rfl
theorem Tryzres298 : Tryzfi298.results = Tryz.f298.results.toList := rfl
theorem Tryznt298 : Tryzfi298.ntmps = Tryz.f298.ntmps := rfl
theorem Tryzbody298 : Tryzfi298.body = (Tryz.f298.body).getD .skip := rfl
theorem TryzfiAt299 : Tryzfi.get 299 = some Tryzfi299 := by rfl
theorem Tryzjoin299 : Tryzfi299.join = false := rfl
theorem Tryzres299 : Tryzfi299.results = Tryz.f299.results.toList := rfl
theorem Tryznt299 : Tryzfi299.ntmps = Tryz.f299.ntmps := rfl
theorem Tryzbody299 : Tryzfi299.body = (Tryz.f299.body).getD .skip := rfl
theorem TryzfiAt300 : Tryzfi.get 300 = some Tryzfi300 := by rfl
theorem Tryzjoin300 : Tryzfi300.join = false := rfl
theorem Tryzres300 : Tryzfi300.results = Tryz.f300.results.toList := rfl
theorem Tryznt300 : Tryzfi300.ntmps = Tryz.f300.ntmps := rfl
theorem Tryzbody300 : Tryzfi300.body = (Tryz.f300.body).getD .skip := rfl
theorem TryzfiAt301 : Tryzfi.get 301 = some Tryzfi301 := by rfl
theorem Tryzjoin301 : Tryzfi301.join = false := rfl
theorem Tryzres301 : Tryzfi301.results = Tryz.f301.results.toList := rfl
theorem Tryznt301 : Tryzfi301.ntmps = Tryz.f301.ntmps := rfl
theorem Tryzbody301 : Tryzfi301.body = (Tryz.f301.body).getD .skip := rfl
theorem TryzfiAt302 : Tryzfi.get 302 = some Tryzfi302 := by rfl
theorem Tryzjoin302 : Tryzfi302.join = false := rfl
theorem Tryzres302 : Tryzfi302.results = Tryz.f302.results.toList := rfl
theorem Tryznt302 : Tryzfi302.ntmps = Tryz.f302.ntmps := rfl
theorem Tryzbody302 : Tryzfi302.body = (Tryz.f302.body).getD .skip := rfl
theorem TryzfiAt303 : Tryzfi.get 303 = some Tryzfi303 := by rfl
theorem Tryzjoin303 : Tryzfi303.join = false := rfl
theorem Tryzres303 : Tryzfi303.results = Tryz.f303.results.toList := rfl
theorem Tryznt303 : Tryzfi303.ntmps = Tryz.f303.ntmps := rfl
theorem Tryzbody303 : Tryzfi303.body = (Tryz.f303.body).getD .skip := rfl
theorem TryzfiAt304 : Tryzfi.get 304 = some Tryzfi304 := by rfl
theorem Tryzjoin304 : Tryzfi304.join = false := rfl
theorem Tryzres304 : Tryzfi304.results = Tryz.f304.results.toList := rfl
theorem Tryznt304 : Tryzfi304.ntmps = Tryz.f304.ntmps := rfl
theorem Tryzbody304 : Tryzfi304.body = (Tryz.f304.body).getD .skip := rfl
theorem TryzfiAt305 : Tryzfi.get 305 = some Tryzfi305 := by rfl
theorem Tryzjoin305 : Tryzfi305.join = false := rfl
theorem Tryzres305 : Tryzfi305.results = Tryz.f305.results.toList := rfl
theorem Tryznt305 : Tryzfi305.ntmps = Tryz.f305.ntmps := rfl
theorem Tryzbody305 : Tryzfi305.body = (Tryz.f305.body).getD .skip := rfl
theorem TryzfiAt306 : Tryzfi.get 306 = some Tryzfi306 := by rfl
theorem Tryzjoin306 : Tryzfi306.join = false := rfl
theorem Tryzres306 : Tryzfi306.results = Tryz.f306.results.toList := rfl
theorem Tryznt306 : Tryzfi306.ntmps = Tryz.f306.ntmps := rfl
theorem Tryzbody306 : Tryzfi306.body = (Tryz.f306.body).getD .skip := rfl
theorem TryzfiAt307 : Tryzfi.get 307 = some Tryzfi307 := by rfl
theorem Tryzjoin307 : Tryzfi307.join = false := rfl
theorem Tryzres307 : Tryzfi307.results = Tryz.f307.results.toList := rfl
theorem Tryznt307 : Tryzfi307.ntmps = Tryz.f307.ntmps := rfl
theorem Tryzbody307 : Tryzfi307.body = (Tryz.f307.body).getD .skip := rfl
theorem TryzfiAt310 : Tryzfi.get 310 = some Tryzfi310 := by rfl
theorem Tryzjoin310 : Tryzfi310.join = false := rfl
theorem Tryzres310 : Tryzfi310.results = Tryz.f310.results.toList := rfl
theorem Tryznt310 : Tryzfi310.ntmps = Tryz.f310.ntmps := rfl
theorem Tryzbody310 : Tryzfi310.body = (Tryz.f310.body).getD .skip := rfl
theorem TryzfiAt311 : Tryzfi.get 311 = some Tryzfi311 := by rfl
theorem Tryzjoin311 : Tryzfi311.join = false := rfl
theorem Tryzres311 : Tryzfi311.results = Tryz.f311.results.toList := rfl
theorem Tryznt311 : Tryzfi311.ntmps = Tryz.f311.ntmps := rfl
theorem Tryzbody311 : Tryzfi311.body = (Tryz.f311.body).getD .skip := rfl
theorem TryzfiAt312 : Tryzfi.get 312 = some Tryzfi312 := by rfl
theorem Tryzjoin312 : Tryzfi312.join = false := rfl
theorem Tryzres312 : Tryzfi312.results = Tryz.f312.results.toList := rfl
theorem Tryznt312 : Tryzfi312.ntmps = Tryz.f312.ntmps := rfl
theorem Tryzbody312 : Tryzfi312.body = (Tryz.f312.body).getD .skip := rfl
theorem TryzfiAt313 : Tryzfi.get 313 = some Tryzfi313 := by rfl
theorem Tryzjoin313 : Tryzfi313.join = false := rfl
theorem Tryzres313 : Tryzfi313.results = Tryz.f313.results.toList := rfl
theorem Tryznt313 : Tryzfi313.ntmps = Tryz.f313.ntmps := rfl
theorem Tryzbody313 : Tryzfi313.body = (Tryz.f313.body).getD .skip := rfl
theorem TryzfiAt314 : Tryzfi.get 314 = some Tryzfi314 := by rfl
theorem Tryzjoin314 : Tryzfi314.join = false := rfl
theorem Tryzres314 : Tryzfi314.results = Tryz.f314.results.toList := rfl
theorem Tryznt314 : Tryzfi314.ntmps = Tryz.f314.ntmps := rfl
theorem Tryzbody314 : Tryzfi314.body = (Tryz.f314.body).getD .skip := rfl
theorem TryzfiAt315 : Tryzfi.get 315 = some Tryzfi315 := by rfl
theorem Tryzjoin315 : Tryzfi315.join = false := rfl
theorem Tryzres315 : Tryzfi315.results = Tryz.f315.results.toList := rfl
theorem Tryznt315 : Tryzfi315.ntmps = Tryz.f315.ntmps := rfl
theorem Tryzbody315 : Tryzfi315.body = (Tryz.f315.body).getD .skip := rfl
theorem TryzfiAt316 : Tryzfi.get 316 = some Tryzfi316 := by rfl
theorem Tryzjoin316 : Tryzfi316.join = false := rfl
theorem Tryzres316 : Tryzfi316.results = Tryz.f316.results.toList := rfl
theorem Tryznt316 : Tryzfi316.ntmps = Tryz.f316.ntmps := rfl
theorem Tryzbody316 : Tryzfi316.body = (Tryz.f316.body).getD .skip := rfl
theorem TryzfiAt317 : Tryzfi.get 317 = some Tryzfi317 := by rfl
theorem Tryzjoin317 : Tryzfi317.join = false := rfl
theorem Tryzres317 : Tryzfi317.results = Tryz.f317.results.toList := rfl
theorem Tryznt317 : Tryzfi317.ntmps = Tryz.f317.ntmps := rfl
theorem Tryzbody317 : Tryzfi317.body = (Tryz.f317.body).getD .skip := rfl
theorem TryzfiAt318 : Tryzfi.get 318 = some Tryzfi318 := by rfl
theorem Tryzjoin318 : Tryzfi318.join = false := rfl
theorem Tryzres318 : Tryzfi318.results = Tryz.f318.results.toList := rfl
theorem Tryznt318 : Tryzfi318.ntmps = Tryz.f318.ntmps := rfl
theorem Tryzbody318 : Tryzfi318.body = (Tryz.f318.body).getD .skip := rfl
theorem TryzfiAt319 : Tryzfi.get 319 = some Tryzfi319 := by rfl
theorem Tryzjoin319 : Tryzfi319.join = true := rfl
theorem Tryzres319 : Tryzfi319.results = Tryz.f319.results.toList := rfl
theorem Tryznt319 : Tryzfi319.ntmps = Tryz.f319.ntmps := rfl
theorem Tryzbody319 : Tryzfi319.body = (Tryz.f319.body).getD .skip := rfl
theorem TryzfiAt320 : Tryzfi.get 320 = some Tryzfi320 := by rfl
theorem Tryzjoin320 : Tryzfi320.join = false := rfl
theorem Tryzres320 : Tryzfi320.results = Tryz.f320.results.toList := rfl
theorem Tryznt320 : Tryzfi320.ntmps = Tryz.f320.ntmps := rfl
theorem Tryzbody320 : Tryzfi320.body = (Tryz.f320.body).getD .skip := rfl
theorem TryzfiAt321 : Tryzfi.get 321 = some Tryzfi321 := by rfl
theorem Tryzjoin321 : Tryzfi321.join = false := rfl
theorem Tryzres321 : Tryzfi321.results = Tryz.f321.results.toList := rfl
theorem Tryznt321 : Tryzfi321.ntmps = Tryz.f321.ntmps := rfl
theorem Tryzbody321 : Tryzfi321.body = (Tryz.f321.body).getD .skip := rfl
theorem TryzfiAt322 : Tryzfi.get 322 = some Tryzfi322 := by rfl
theorem Tryzjoin322 : Tryzfi322.join = false := rfl
theorem Tryzres322 : Tryzfi322.results = Tryz.f322.results.toList := rfl
theorem Tryznt322 : Tryzfi322.ntmps = Tryz.f322.ntmps := rfl
theorem Tryzbody322 : Tryzfi322.body = (Tryz.f322.body).getD .skip := rfl
theorem TryzfiAt323 : Tryzfi.get 323 = some Tryzfi323 := by rfl
theorem Tryzjoin323 : Tryzfi323.join = false := rfl
theorem Tryzres323 : Tryzfi323.results = Tryz.f323.results.toList := rfl
theorem Tryznt323 : Tryzfi323.ntmps = Tryz.f323.ntmps := rfl
theorem Tryzbody323 : Tryzfi323.body = (Tryz.f323.body).getD .skip := rfl
theorem TryzfiAt324 : Tryzfi.get 324 = some Tryzfi324 := by rfl
theorem Tryzjoin324 : Tryzfi324.join = false := rfl
theorem Tryzres324 : Tryzfi324.results = Tryz.f324.results.toList := rfl
theorem Tryznt324 : Tryzfi324.ntmps = Tryz.f324.ntmps := rfl
theorem Tryzbody324 : Tryzfi324.body = (Tryz.f324.body).getD .skip := rfl
theorem TryzfiAt325 : Tryzfi.get 325 = some Tryzfi325 := by rfl
theorem Tryzjoin325 : Tryzfi325.join = false := rfl
theorem Tryzres325 : Tryzfi325.results = Tryz.f325.results.toList := rfl
theorem Tryznt325 : Tryzfi325.ntmps = Tryz.f325.ntmps := rfl
theorem Tryzbody325 : Tryzfi325.body = (Tryz.f325.body).getD .skip := rfl
theorem TryzfiAt326 : Tryzfi.get 326 = some Tryzfi326 := by rfl
theorem Tryzjoin326 : Tryzfi326.join = false := rfl
theorem Tryzres326 : Tryzfi326.results = Tryz.f326.results.toList := rfl
theorem Tryznt326 : Tryzfi326.ntmps = Tryz.f326.ntmps := rfl
theorem Tryzbody326 : Tryzfi326.body = (Tryz.f326.body).getD .skip := rfl
theorem TryzfiAt327 : Tryzfi.get 327 = some Tryzfi327 := by rfl
theorem Tryzjoin327 : Tryzfi327.join = false := rfl
theorem Tryzres327 : Tryzfi327.results = Tryz.f327.results.toList := rfl
theorem Tryznt327 : Tryzfi327.ntmps = Tryz.f327.ntmps := rfl
theorem Tryzbody327 : Tryzfi327.body = (Tryz.f327.body).getD .skip := rfl
theorem TryzfiAt328 : Tryzfi.get 328 = some Tryzfi328 := by rfl
theorem Tryzjoin328 : Tryzfi328.join = false := rfl
theorem Tryzres328 : Tryzfi328.results = Tryz.f328.results.toList := rfl
theorem Tryznt328 : Tryzfi328.ntmps = Tryz.f328.ntmps := rfl
theorem Tryzbody328 : Tryzfi328.body = (Tryz.f328.body).getD .skip := rfl
theorem TryzfiAt329 : Tryzfi.get 329 = some Tryzfi329 := by rfl
theorem Tryzjoin329 : Tryzfi329.join = false := rfl
theorem Tryzres329 : Tryzfi329.results = Tryz.f329.results.toList := rfl
theorem Tryznt329 : Tryzfi329.ntmps = Tryz.f329.ntmps := rfl
theorem Tryzbody329 : Tryzfi329.body = (Tryz.f329.body).getD .skip := rfl
theorem TryzfiAt330 : Tryzfi.get 330 = some Tryzfi330 := by rfl
theorem Tryzjoin330 : Tryzfi330.join = false := rfl
theorem Tryzres330 : Tryzfi330.results = Tryz.f330.results.toList := rfl
theorem Tryznt330 : Tryzfi330.ntmps = Tryz.f330.ntmps := rfl
theorem Tryzbody330 : Tryzfi330.body = (Tryz.f330.body).getD .skip := rfl
theorem TryzfiAt331 : Tryzfi.get 331 = some Tryzfi331 := by rfl
theorem Tryzjoin331 : Tryzfi331.join = false := rfl
theorem Tryzres331 : Tryzfi331.results = Tryz.f331.results.toList := rfl
theorem Tryznt331 : Tryzfi331.ntmps = Tryz.f331.ntmps := rfl
theorem Tryzbody331 : Tryzfi331.body = (Tryz.f331.body).getD .skip := rfl
theorem TryzfiAt332 : Tryzfi.get 332 = some Tryzfi332 := by rfl
theorem Tryzjoin332 : Tryzfi332.join = false := rfl
theorem Tryzres332 : Tryzfi332.results = Tryz.f332.results.toList := rfl
theorem Tryznt332 : Tryzfi332.ntmps = Tryz.f332.ntmps := rfl
theorem Tryzbody332 : Tryzfi332.body = (Tryz.f332.body).getD .skip := rfl
theorem TryzfiAt333 : Tryzfi.get 333 = some Tryzfi333 := by rfl
theorem Tryzjoin333 : Tryzfi333.join = true := rfl
theorem Tryzres333 : Tryzfi333.results = Tryz.f333.results.toList := rfl
theorem Tryznt333 : Tryzfi333.ntmps = Tryz.f333.ntmps := rfl
theorem Tryzbody333 : Tryzfi333.body = (Tryz.f333.body).getD .skip := rfl
theorem TryzfiAt334 : Tryzfi.get 334 = some Tryzfi334 := by rfl
theorem Tryzjoin334 : Tryzfi334.join = false := rfl
theorem Tryzres334 : Tryzfi334.results = Tryz.f334.results.toList := rfl
theorem Tryznt334 : Tryzfi334.ntmps = Tryz.f334.ntmps := rfl
theorem Tryzbody334 : Tryzfi334.body = (Tryz.f334.body).getD .skip := rfl
theorem TryzfiAt335 : Tryzfi.get 335 = some Tryzfi335 := by rfl
theorem Tryzjoin335 : Tryzfi335.join = false := rfl
theorem Tryzres335 : Tryzfi335.results = Tryz.f335.results.toList := rfl
theorem Tryznt335 : Tryzfi335.ntmps = Tryz.f335.ntmps := rfl
theorem Tryzbody335 : Tryzfi335.body = (Tryz.f335.body).getD .skip := rfl
theorem TryzfiAt336 : Tryzfi.get 336 = some Tryzfi336 := by rfl
theorem Tryzjoin336 : Tryzfi336.join = false := rfl
theorem Tryzres336 : Tryzfi336.results = Tryz.f336.results.toList := rfl
theorem Tryznt336 : Tryzfi336.ntmps = Tryz.f336.ntmps := rfl
theorem Tryzbody336 : Tryzfi336.body = (Tryz.f336.body).getD .skip := rfl
theorem TryzfiAt337 : Tryzfi.get 337 = some Tryzfi337 := by rfl
theorem Tryzjoin337 : Tryzfi337.join = false := rfl
theorem Tryzres337 : Tryzfi337.results = Tryz.f337.results.toList := rfl
theorem Tryznt337 : Tryzfi337.ntmps = Tryz.f337.ntmps := rfl
theorem Tryzbody337 : Tryzfi337.body = (Tryz.f337.body).getD .skip := rfl
theorem TryzfiAt338 : Tryzfi.get 338 = some Tryzfi338 := by rfl
theorem Tryzjoin338 : Tryzfi338.join = false := rfl
theorem Tryzres338 : Tryzfi338.results = Tryz.f338.results.toList := rfl
theorem Tryznt338 : Tryzfi338.ntmps = Tryz.f338.ntmps := rfl
theorem Tryzbody338 : Tryzfi338.body = (Tryz.f338.body).getD .skip := rfl
theorem TryzfiAt339 : Tryzfi.get 339 = some Tryzfi339 := by rfl
theorem Tryzjoin339 : Tryzfi339.join = false := rfl
theorem Tryzres339 : Tryzfi339.results = Tryz.f339.results.toList := rfl
theorem Tryznt339 : Tryzfi339.ntmps = Tryz.f339.ntmps := rfl
theorem Tryzbody339 : Tryzfi339.body = (Tryz.f339.body).getD .skip := rfl
theorem TryzfiAt340 : Tryzfi.get 340 = some Tryzfi340 := by rfl
theorem Tryzjoin340 : Tryzfi340.join = false := rfl
theorem Tryzres340 : Tryzfi340.results = Tryz.f340.results.toList := rfl
theorem Tryznt340 : Tryzfi340.ntmps = Tryz.f340.ntmps := rfl
theorem Tryzbody340 : Tryzfi340.body = (Tryz.f340.body).getD .skip := rfl
theorem TryzfiAt341 : Tryzfi.get 341 = some Tryzfi341 := by rfl
theorem Tryzjoin341 : Tryzfi341.join = false := rfl
theorem Tryzres341 : Tryzfi341.results = Tryz.f341.results.toList := rfl
theorem Tryznt341 : Tryzfi341.ntmps = Tryz.f341.ntmps := rfl
theorem Tryzbody341 : Tryzfi341.body = (Tryz.f341.body).getD .skip := rfl
theorem TryzfiAt342 : Tryzfi.get 342 = some Tryzfi342 := by rfl
theorem Tryzjoin342 : Tryzfi342.join = false := rfl
theorem Tryzres342 : Tryzfi342.results = Tryz.f342.results.toList := rfl
theorem Tryznt342 : Tryzfi342.ntmps = Tryz.f342.ntmps := rfl
theorem Tryzbody342 : Tryzfi342.body = (Tryz.f342.body).getD .skip := rfl
theorem TryzfiAt343 : Tryzfi.get 343 = some Tryzfi343 := by rfl
theorem Tryzjoin343 : Tryzfi343.join = true := rfl
theorem Tryzres343 : Tryzfi343.results = Tryz.f343.results.toList := rfl
theorem Tryznt343 : Tryzfi343.ntmps = Tryz.f343.ntmps := rfl
theorem Tryzbody343 : Tryzfi343.body = (Tryz.f343.body).getD .skip := rfl
theorem TryzfiAt344 : Tryzfi.get 344 = some Tryzfi344 := by rfl
theorem Tryzjoin344 : Tryzfi344.join = false := rfl
theorem Tryzres344 : Tryzfi344.results = Tryz.f344.results.toList := rfl
theorem Tryznt344 : Tryzfi344.ntmps = Tryz.f344.ntmps := rfl
theorem Tryzbody344 : Tryzfi344.body = (Tryz.f344.body).getD .skip := rfl
theorem TryzfiAt345 : Tryzfi.get 345 = some Tryzfi345 := by rfl
theorem Tryzjoin345 : Tryzfi345.join = false := rfl
theorem Tryzres345 : Tryzfi345.results = Tryz.f345.results.toList := rfl
theorem Tryznt345 : Tryzfi345.ntmps = Tryz.f345.ntmps := rfl
theorem Tryzbody345 : Tryzfi345.body = (Tryz.f345.body).getD .skip := rfl
theorem TryzfiAt346 : Tryzfi.get 346 = some Tryzfi346 := by rfl
theorem Tryzjoin346 : Tryzfi346.join = false := rfl
theorem Tryzres346 : Tryzfi346.results = Tryz.f346.results.toList := rfl
theorem Tryznt346 : Tryzfi346.ntmps = Tryz.f346.ntmps := rfl
theorem Tryzbody346 : Tryzfi346.body = (Tryz.f346.body).getD .skip := rfl
theorem TryzfiAt347 : Tryzfi.get 347 = some Tryzfi347 := by rfl
theorem Tryzjoin347 : Tryzfi347.join = false := rfl
theorem Tryzres347 : Tryzfi347.results = Tryz.f347.results.toList := rfl
theorem Tryznt347 : Tryzfi347.ntmps = Tryz.f347.ntmps := rfl
theorem Tryzbody347 : Tryzfi347.body = (Tryz.f347.body).getD .skip := rfl
theorem TryzfiAt348 : Tryzfi.get 348 = some Tryzfi348 := by rfl
theorem Tryzjoin348 : Tryzfi348.join = false := rfl
theorem Tryzres348 : Tryzfi348.results = Tryz.f348.results.toList := rfl
theorem Tryznt348 : Tryzfi348.ntmps = Tryz.f348.ntmps := rfl
theorem Tryzbody348 : Tryzfi348.body = (Tryz.f348.body).getD .skip := rfl
theorem TryzfiAt349 : Tryzfi.get 349 = some Tryzfi349 := by rfl
theorem Tryzjoin349 : Tryzfi349.join = false := rfl
theorem Tryzres349 : Tryzfi349.results = Tryz.f349.results.toList := rfl
theorem Tryznt349 : Tryzfi349.ntmps = Tryz.f349.ntmps := rfl
theorem Tryzbody349 : Tryzfi349.body = (Tryz.f349.body).getD .skip := rfl
theorem TryzfiAt350 : Tryzfi.get 350 = some Tryzfi350 := by rfl
theorem Tryzjoin350 : Tryzfi350.join = false := rfl
theorem Tryzres350 : Tryzfi350.results = Tryz.f350.results.toList := rfl
theorem Tryznt350 : Tryzfi350.ntmps = Tryz.f350.ntmps := rfl
theorem Tryzbody350 : Tryzfi350.body = (Tryz.f350.body).getD .skip := rfl
theorem TryzfiAt351 : Tryzfi.get 351 = some Tryzfi351 := by rfl
theorem Tryzjoin351 : Tryzfi351.join = false := rfl
theorem Tryzres351 : Tryzfi351.results = Tryz.f351.results.toList := rfl
theorem Tryznt351 : Tryzfi351.ntmps = Tryz.f351.ntmps := rfl
theorem Tryzbody351 : Tryzfi351.body = (Tryz.f351.body).getD .skip := rfl
theorem TryzfiAt352 : Tryzfi.get 352 = some Tryzfi352 := by rfl
theorem Tryzjoin352 : Tryzfi352.join = false := rfl
theorem Tryzres352 : Tryzfi352.results = Tryz.f352.results.toList := rfl
theorem Tryznt352 : Tryzfi352.ntmps = Tryz.f352.ntmps := rfl
theorem Tryzbody352 : Tryzfi352.body = (Tryz.f352.body).getD .skip := rfl
theorem TryzfiAt353 : Tryzfi.get 353 = some Tryzfi353 := by rfl
theorem Tryzjoin353 : Tryzfi353.join = false := rfl
theorem Tryzres353 : Tryzfi353.results = Tryz.f353.results.toList := rfl
theorem Tryznt353 : Tryzfi353.ntmps = Tryz.f353.ntmps := rfl
theorem Tryzbody353 : Tryzfi353.body = (Tryz.f353.body).getD .skip := rfl
theorem TryzfiAt354 : Tryzfi.get 354 = some Tryzfi354 := by rfl
theorem Tryzjoin354 : Tryzfi354.join = false := rfl
theorem Tryzres354 : Tryzfi354.results = Tryz.f354.results.toList := rfl
theorem Tryznt354 : Tryzfi354.ntmps = Tryz.f354.ntmps := rfl
theorem Tryzbody354 : Tryzfi354.body = (Tryz.f354.body).getD .skip := rfl
theorem TryzfiAt355 : Tryzfi.get 355 = some Tryzfi355 := by rfl
theorem Tryzjoin355 : Tryzfi355.join = false := rfl
theorem Tryzres355 : Tryzfi355.results = Tryz.f355.results.toList := rfl
theorem Tryznt355 : Tryzfi355.ntmps = Tryz.f355.ntmps := rfl
theorem Tryzbody355 : Tryzfi355.body = (Tryz.f355.body).getD .skip := rfl
theorem TryzfiAt356 : Tryzfi.get 356 = some Tryzfi356 := by rfl
theorem Tryzjoin356 : Tryzfi356.join = false := rfl
theorem Tryzres356 : Tryzfi356.results = Tryz.f356.results.toList := rfl
theorem Tryznt356 : Tryzfi356.ntmps = Tryz.f356.ntmps := rfl
theorem Tryzbody356 : Tryzfi356.body = (Tryz.f356.body).getD .skip := rfl
theorem TryzfiAt357 : Tryzfi.get 357 = some Tryzfi357 := by rfl
theorem Tryzjoin357 : Tryzfi357.join = false := rfl
theorem Tryzres357 : Tryzfi357.results = Tryz.f357.results.toList := rfl
theorem Tryznt357 : Tryzfi357.ntmps = Tryz.f357.ntmps := rfl
theorem Tryzbody357 : Tryzfi357.body = (Tryz.f357.body).getD .skip := rfl
theorem TryzfiAt358 : Tryzfi.get 358 = some Tryzfi358 := by rfl
theorem Tryzjoin358 : Tryzfi358.join = false := rfl
theorem Tryzres358 : Tryzfi358.results = Tryz.f358.results.toList := rfl
theorem Tryznt358 : Tryzfi358.ntmps = Tryz.f358.ntmps := rfl
theorem Tryzbody358 : Tryzfi358.body = (Tryz.f358.body).getD .skip := rfl
theorem TryzfiAt359 : Tryzfi.get 359 = some Tryzfi359 := by rfl
theorem Tryzjoin359 : Tryzfi359.join = false := rfl
theorem Tryzres359 : Tryzfi359.results = Tryz.f359.results.toList := rfl
theorem Tryznt359 : Tryzfi359.ntmps = Tryz.f359.ntmps := rfl
theorem Tryzbody359 : Tryzfi359.body = (Tryz.f359.body).getD .skip := rfl
theorem TryzfiAt360 : Tryzfi.get 360 = some Tryzfi360 := by rfl
theorem Tryzjoin360 : Tryzfi360.join = false := rfl
theorem Tryzres360 : Tryzfi360.results = Tryz.f360.results.toList := rfl
theorem Tryznt360 : Tryzfi360.ntmps = Tryz.f360.ntmps := rfl
theorem Tryzbody360 : Tryzfi360.body = (Tryz.f360.body).getD .skip := rfl
theorem TryzfiAt361 : Tryzfi.get 361 = some Tryzfi361 := by rfl
theorem Tryzjoin361 : Tryzfi361.join = false := rfl
theorem Tryzres361 : Tryzfi361.results = Tryz.f361.results.toList := rfl
theorem Tryznt361 : Tryzfi361.ntmps = Tryz.f361.ntmps := rfl
theorem Tryzbody361 : Tryzfi361.body = (Tryz.f361.body).getD .skip := rfl
theorem TryzfiAt362 : Tryzfi.get 362 = some Tryzfi362 := by rfl
theorem Tryzjoin362 : Tryzfi362.join = false := rfl
theorem Tryzres362 : Tryzfi362.results = Tryz.f362.results.toList := rfl
theorem Tryznt362 : Tryzfi362.ntmps = Tryz.f362.ntmps := rfl
theorem Tryzbody362 : Tryzfi362.body = (Tryz.f362.body).getD .skip := rfl
theorem TryzfiAt363 : Tryzfi.get 363 = some Tryzfi363 := by rfl
theorem Tryzjoin363 : Tryzfi363.join = false := rfl
theorem Tryzres363 : Tryzfi363.results = Tryz.f363.results.toList := rfl
theorem Tryznt363 : Tryzfi363.ntmps = Tryz.f363.ntmps := rfl
theorem Tryzbody363 : Tryzfi363.body = (Tryz.f363.body).getD .skip := rfl
theorem TryzfiAt364 : Tryzfi.get 364 = some Tryzfi364 := by rfl
theorem Tryzjoin364 : Tryzfi364.join = false := rfl
theorem Tryzres364 : Tryzfi364.results = Tryz.f364.results.toList := rfl
theorem Tryznt364 : Tryzfi364.ntmps = Tryz.f364.ntmps := rfl
theorem Tryzbody364 : Tryzfi364.body = (Tryz.f364.body).getD .skip := rfl
theorem TryzfiAt365 : Tryzfi.get 365 = some Tryzfi365 := by rfl
theorem Tryzjoin365 : Tryzfi365.join = false := rfl
theorem Tryzres365 : Tryzfi365.results = Tryz.f365.results.toList := rfl
theorem Tryznt365 : Tryzfi365.ntmps = Tryz.f365.ntmps := rfl
theorem Tryzbody365 : Tryzfi365.body = (Tryz.f365.body).getD .skip := rfl
theorem TryzfiAt366 : Tryzfi.get 366 = some Tryzfi366 := by rfl
theorem Tryzjoin366 : Tryzfi366.join = false := rfl
theorem Tryzres366 : Tryzfi366.results = Tryz.f366.results.toList := rfl
theorem Tryznt366 : Tryzfi366.ntmps = Tryz.f366.ntmps := rfl
theorem Tryzbody366 : Tryzfi366.body = (Tryz.f366.body).getD .skip := rfl
theorem TryzfiAt367 : Tryzfi.get 367 = some Tryzfi367 := by rfl
theorem Tryzjoin367 : Tryzfi367.join = false := rfl
theorem Tryzres367 : Tryzfi367.results = Tryz.f367.results.toList := rfl
theorem Tryznt367 : Tryzfi367.ntmps = Tryz.f367.ntmps := rfl
theorem Tryzbody367 : Tryzfi367.body = (Tryz.f367.body).getD .skip := rfl
theorem TryzfiAt368 : Tryzfi.get 368 = some Tryzfi368 := by rfl
theorem Tryzjoin368 : Tryzfi368.join = false := rfl
theorem Tryzres368 : Tryzfi368.results = Tryz.f368.results.toList := rfl
theorem Tryznt368 : Tryzfi368.ntmps = Tryz.f368.ntmps := rfl
theorem Tryzbody368 : Tryzfi368.body = (Tryz.f368.body).getD .skip := rfl
theorem TryzfiAt369 : Tryzfi.get 369 = some Tryzfi369 := by rfl
theorem Tryzjoin369 : Tryzfi369.join = false := rfl
theorem Tryzres369 : Tryzfi369.results = Tryz.f369.results.toList := rfl
theorem Tryznt369 : Tryzfi369.ntmps = Tryz.f369.ntmps := rfl
theorem Tryzbody369 : Tryzfi369.body = (Tryz.f369.body).getD .skip := rfl
theorem TryzfiAt371 : Tryzfi.get 371 = some Tryzfi371 := by rfl
theorem Tryzjoin371 : Tryzfi371.join = false := rfl
theorem Tryzres371 : Tryzfi371.results = Tryz.f371.results.toList := rfl
theorem Tryznt371 : Tryzfi371.ntmps = Tryz.f371.ntmps := rfl
theorem Tryzbody371 : Tryzfi371.body = (Tryz.f371.body).getD .skip := rfl
theorem TryzfiAt372 : Tryzfi.get 372 = some Tryzfi372 := by rfl
theorem Tryzjoin372 : Tryzfi372.join = false := rfl
theorem Tryzres372 : Tryzfi372.results = Tryz.f372.results.toList := rfl
theorem Tryznt372 : Tryzfi372.ntmps = Tryz.f372.ntmps := rfl
theorem Tryzbody372 : Tryzfi372.body = (Tryz.f372.body).getD .skip := rfl
theorem TryzfiAt373 : Tryzfi.get 373 = some Tryzfi373 := by rfl
theorem Tryzjoin373 : Tryzfi373.join = false := rfl
theorem Tryzres373 : Tryzfi373.results = Tryz.f373.results.toList := rfl
theorem Tryznt373 : Tryzfi373.ntmps = Tryz.f373.ntmps := rfl
theorem Tryzbody373 : Tryzfi373.body = (Tryz.f373.body).getD .skip := rfl
theorem TryzfiAt374 : Tryzfi.get 374 = some Tryzfi374 := by rfl
theorem Tryzjoin374 : Tryzfi374.join = false := rfl
theorem Tryzres374 : Tryzfi374.results = Tryz.f374.results.toList := rfl
theorem Tryznt374 : Tryzfi374.ntmps = Tryz.f374.ntmps := rfl
theorem Tryzbody374 : Tryzfi374.body = (Tryz.f374.body).getD .skip := rfl
theorem TryzfiAt375 : Tryzfi.get 375 = some Tryzfi375 := by rfl
theorem Tryzjoin375 : Tryzfi375.join = false := rfl
theorem Tryzres375 : Tryzfi375.results = Tryz.f375.results.toList := rfl
theorem Tryznt375 : Tryzfi375.ntmps = Tryz.f375.ntmps := rfl
theorem Tryzbody375 : Tryzfi375.body = (Tryz.f375.body).getD .skip := rfl
theorem TryzfiAt376 : Tryzfi.get 376 = some Tryzfi376 := by rfl
theorem Tryzjoin376 : Tryzfi376.join = false := rfl
theorem Tryzres376 : Tryzfi376.results = Tryz.f376.results.toList := rfl
theorem Tryznt376 : Tryzfi376.ntmps = Tryz.f376.ntmps := rfl
theorem Tryzbody376 : Tryzfi376.body = (Tryz.f376.body).getD .skip := rfl
theorem TryzfiAt377 : Tryzfi.get 377 = some Tryzfi377 := by rfl
theorem Tryzjoin377 : Tryzfi377.join = false := rfl
theorem Tryzres377 : Tryzfi377.results = Tryz.f377.results.toList := rfl
theorem Tryznt377 : Tryzfi377.ntmps = Tryz.f377.ntmps := rfl
theorem Tryzbody377 : Tryzfi377.body = (Tryz.f377.body).getD .skip := rfl
theorem TryzfiAt378 : Tryzfi.get 378 = some Tryzfi378 := by rfl
theorem Tryzjoin378 : Tryzfi378.join = false := rfl
theorem Tryzres378 : Tryzfi378.results = Tryz.f378.results.toList := rfl
theorem Tryznt378 : Tryzfi378.ntmps = Tryz.f378.ntmps := rfl
theorem Tryzbody378 : Tryzfi378.body = (Tryz.f378.body).getD .skip := rfl
theorem TryzfiAt379 : Tryzfi.get 379 = some Tryzfi379 := by rfl
theorem Tryzjoin379 : Tryzfi379.join = false := rfl
theorem Tryzres379 : Tryzfi379.results = Tryz.f379.results.toList := rfl
theorem Tryznt379 : Tryzfi379.ntmps = Tryz.f379.ntmps := rfl
theorem Tryzbody379 : Tryzfi379.body = (Tryz.f379.body).getD .skip := rfl
theorem TryzfiAt380 : Tryzfi.get 380 = some Tryzfi380 := by rfl
theorem Tryzjoin380 : Tryzfi380.join = false := rfl
theorem Tryzres380 : Tryzfi380.results = Tryz.f380.results.toList := rfl
theorem Tryznt380 : Tryzfi380.ntmps = Tryz.f380.ntmps := rfl
theorem Tryzbody380 : Tryzfi380.body = (Tryz.f380.body).getD .skip := rfl
theorem TryzfiAt381 : Tryzfi.get 381 = some Tryzfi381 := by rfl
theorem Tryzjoin381 : Tryzfi381.join = false := rfl
theorem Tryzres381 : Tryzfi381.results = Tryz.f381.results.toList := rfl
theorem Tryznt381 : Tryzfi381.ntmps = Tryz.f381.ntmps := rfl
theorem Tryzbody381 : Tryzfi381.body = (Tryz.f381.body).getD .skip := rfl
theorem TryzfiAt382 : Tryzfi.get 382 = some Tryzfi382 := by rfl
theorem Tryzjoin382 : Tryzfi382.join = false := rfl
theorem Tryzres382 : Tryzfi382.results = Tryz.f382.results.toList := rfl
theorem Tryznt382 : Tryzfi382.ntmps = Tryz.f382.ntmps := rfl
theorem Tryzbody382 : Tryzfi382.body = (Tryz.f382.body).getD .skip := rfl
theorem TryzfiAt384 : Tryzfi.get 384 = some Tryzfi384 := by rfl
theorem Tryzjoin384 : Tryzfi384.join = false := rfl
theorem Tryzres384 : Tryzfi384.results = Tryz.f384.results.toList := rfl
theorem Tryznt384 : Tryzfi384.ntmps = Tryz.f384.ntmps := rfl
theorem Tryzbody384 : Tryzfi384.body = (Tryz.f384.body).getD .skip := rfl
theorem TryzfiAt385 : Tryzfi.get 385 = some Tryzfi385 := by rfl
theorem Tryzjoin385 : Tryzfi385.join = false := rfl
theorem Tryzres385 : Tryzfi385.results = Tryz.f385.results.toList := rfl
theorem Tryznt385 : Tryzfi385.ntmps = Tryz.f385.ntmps := rfl
theorem Tryzbody385 : Tryzfi385.body = (Tryz.f385.body).getD .skip := rfl
theorem TryzfiAt386 : Tryzfi.get 386 = some Tryzfi386 := by rfl
theorem Tryzjoin386 : Tryzfi386.join = false := rfl
theorem Tryzres386 : Tryzfi386.results = Tryz.f386.results.toList := rfl
theorem Tryznt386 : Tryzfi386.ntmps = Tryz.f386.ntmps := rfl
theorem Tryzbody386 : Tryzfi386.body = (Tryz.f386.body).getD .skip := rfl
theorem TryzfiAt387 : Tryzfi.get 387 = some Tryzfi387 := by rfl
theorem Tryzjoin387 : Tryzfi387.join = false := rfl
theorem Tryzres387 : Tryzfi387.results = Tryz.f387.results.toList := rfl
theorem Tryznt387 : Tryzfi387.ntmps = Tryz.f387.ntmps := rfl
theorem Tryzbody387 : Tryzfi387.body = (Tryz.f387.body).getD .skip := rfl
theorem TryzfiAt388 : Tryzfi.get 388 = some Tryzfi388 := by rfl
theorem Tryzjoin388 : Tryzfi388.join = false := rfl
theorem Tryzres388 : Tryzfi388.results = Tryz.f388.results.toList := rfl
theorem Tryznt388 : Tryzfi388.ntmps = Tryz.f388.ntmps := rfl
theorem Tryzbody388 : Tryzfi388.body = (Tryz.f388.body).getD .skip := rfl
theorem TryzfiAt389 : Tryzfi.get 389 = some Tryzfi389 := by rfl
theorem Tryzjoin389 : Tryzfi389.join = false := rfl
theorem Tryzres389 : Tryzfi389.results = Tryz.f389.results.toList := rfl
theorem Tryznt389 : Tryzfi389.ntmps = Tryz.f389.ntmps := rfl
theorem Tryzbody389 : Tryzfi389.body = (Tryz.f389.body).getD .skip := rfl
theorem TryzfiAt390 : Tryzfi.get 390 = some Tryzfi390 := by rfl
theorem Tryzjoin390 : Tryzfi390.join = false := rfl
theorem Tryzres390 : Tryzfi390.results = Tryz.f390.results.toList := rfl
theorem Tryznt390 : Tryzfi390.ntmps = Tryz.f390.ntmps := rfl
theorem Tryzbody390 : Tryzfi390.body = (Tryz.f390.body).getD .skip := rfl
theorem TryzfiAt391 : Tryzfi.get 391 = some Tryzfi391 := by rfl
theorem Tryzjoin391 : Tryzfi391.join = false := rfl
theorem Tryzres391 : Tryzfi391.results = Tryz.f391.results.toList := rfl
theorem Tryznt391 : Tryzfi391.ntmps = Tryz.f391.ntmps := rfl
theorem Tryzbody391 : Tryzfi391.body = (Tryz.f391.body).getD .skip := rfl
theorem TryzfiAt392 : Tryzfi.get 392 = some Tryzfi392 := by rfl
theorem Tryzjoin392 : Tryzfi392.join = false := rfl
theorem Tryzres392 : Tryzfi392.results = Tryz.f392.results.toList := rfl
theorem Tryznt392 : Tryzfi392.ntmps = Tryz.f392.ntmps := rfl
theorem Tryzbody392 : Tryzfi392.body = (Tryz.f392.body).getD .skip := rfl
theorem TryzfiAt393 : Tryzfi.get 393 = some Tryzfi393 := by rfl
theorem Tryzjoin393 : Tryzfi393.join = false := rfl
theorem Tryzres393 : Tryzfi393.results = Tryz.f393.results.toList := rfl
theorem Tryznt393 : Tryzfi393.ntmps = Tryz.f393.ntmps := rfl
theorem Tryzbody393 : Tryzfi393.body = (Tryz.f393.body).getD .skip := rfl
theorem TryzfiAt394 : Tryzfi.get 394 = some Tryzfi394 := by rfl
theorem Tryzjoin394 : Tryzfi394.join = false := rfl
theorem Tryzres394 : Tryzfi394.results = Tryz.f394.results.toList := rfl
theorem Tryznt394 : Tryzfi394.ntmps = Tryz.f394.ntmps := rfl
theorem Tryzbody394 : Tryzfi394.body = (Tryz.f394.body).getD .skip := rfl
theorem TryzfiAt395 : Tryzfi.get 395 = some Tryzfi395 := by rfl
theorem Tryzjoin395 : Tryzfi395.join = false := rfl
theorem Tryzres395 : Tryzfi395.results = Tryz.f395.results.toList := rfl
theorem Tryznt395 : Tryzfi395.ntmps = Tryz.f395.ntmps := rfl
theorem Tryzbody395 : Tryzfi395.body = (Tryz.f395.body).getD .skip := rfl
theorem TryzfiAt396 : Tryzfi.get 396 = some Tryzfi396 := by rfl
theorem Tryzjoin396 : Tryzfi396.join = false := rfl
theorem Tryzres396 : Tryzfi396.results = Tryz.f396.results.toList := rfl
theorem Tryznt396 : Tryzfi396.ntmps = Tryz.f396.ntmps := rfl
theorem Tryzbody396 : Tryzfi396.body = (Tryz.f396.body).getD .skip := rfl
theorem TryzfiAt397 : Tryzfi.get 397 = some Tryzfi397 := by rfl
theorem Tryzjoin397 : Tryzfi397.join = false := rfl
theorem Tryzres397 : Tryzfi397.results = Tryz.f397.results.toList := rfl
theorem Tryznt397 : Tryzfi397.ntmps = Tryz.f397.ntmps := rfl
theorem Tryzbody397 : Tryzfi397.body = (Tryz.f397.body).getD .skip := rfl
theorem TryzfiAt398 : Tryzfi.get 398 = some Tryzfi398 := by rfl
theorem Tryzjoin398 : Tryzfi398.join = false := rfl
theorem Tryzres398 : Tryzfi398.results = Tryz.f398.results.toList := rfl
theorem Tryznt398 : Tryzfi398.ntmps = Tryz.f398.ntmps := rfl
theorem Tryzbody398 : Tryzfi398.body = (Tryz.f398.body).getD .skip := rfl
theorem TryzfiAt399 : Tryzfi.get 399 = some Tryzfi399 := by rfl
theorem Tryzjoin399 : Tryzfi399.join = false := rfl
theorem Tryzres399 : Tryzfi399.results = Tryz.f399.results.toList := rfl
theorem Tryznt399 : Tryzfi399.ntmps = Tryz.f399.ntmps := rfl
theorem Tryzbody399 : Tryzfi399.body = (Tryz.f399.body).getD .skip := rfl
theorem TryzfiAt400 : Tryzfi.get 400 = some Tryzfi400 := by rfl
theorem Tryzjoin400 : Tryzfi400.join = false := rfl
theorem Tryzres400 : Tryzfi400.results = Tryz.f400.results.toList := rfl
theorem Tryznt400 : Tryzfi400.ntmps = Tryz.f400.ntmps := rfl
theorem Tryzbody400 : Tryzfi400.body = (Tryz.f400.body).getD .skip := rfl
theorem TryzfiAt401 : Tryzfi.get 401 = some Tryzfi401 := by rfl
theorem Tryzjoin401 : Tryzfi401.join = false := rfl
theorem Tryzres401 : Tryzfi401.results = Tryz.f401.results.toList := rfl
theorem Tryznt401 : Tryzfi401.ntmps = Tryz.f401.ntmps := rfl
theorem Tryzbody401 : Tryzfi401.body = (Tryz.f401.body).getD .skip := rfl
theorem TryzfiAt402 : Tryzfi.get 402 = some Tryzfi402 := by rfl
theorem Tryzjoin402 : Tryzfi402.join = false := rfl
theorem Tryzres402 : Tryzfi402.results = Tryz.f402.results.toList := rfl
theorem Tryznt402 : Tryzfi402.ntmps = Tryz.f402.ntmps := rfl
theorem Tryzbody402 : Tryzfi402.body = (Tryz.f402.body).getD .skip := rfl
theorem TryzfiAt403 : Tryzfi.get 403 = some Tryzfi403 := by rfl
theorem Tryzjoin403 : Tryzfi403.join = false := rfl
theorem Tryzres403 : Tryzfi403.results = Tryz.f403.results.toList := rfl
theorem Tryznt403 : Tryzfi403.ntmps = Tryz.f403.ntmps := rfl
theorem Tryzbody403 : Tryzfi403.body = (Tryz.f403.body).getD .skip := rfl
theorem TryzfiAt405 : Tryzfi.get 405 = some Tryzfi405 := by rfl
theorem Tryzjoin405 : Tryzfi405.join = false := rfl
theorem Tryzres405 : Tryzfi405.results = Tryz.f405.results.toList := rfl
theorem Tryznt405 : Tryzfi405.ntmps = Tryz.f405.ntmps := rfl
theorem Tryzbody405 : Tryzfi405.body = (Tryz.f405.body).getD .skip := rfl
theorem TryzfiAt407 : Tryzfi.get 407 = some Tryzfi407 := by rfl
theorem Tryzjoin407 : Tryzfi407.join = false := rfl
theorem Tryzres407 : Tryzfi407.results = Tryz.f407.results.toList := rfl
theorem Tryznt407 : Tryzfi407.ntmps = Tryz.f407.ntmps := rfl
theorem Tryzbody407 : Tryzfi407.body = (Tryz.f407.body).getD .skip := rfl
theorem TryzfiAt408 : Tryzfi.get 408 = some Tryzfi408 := by rfl
theorem Tryzjoin408 : Tryzfi408.join = false := rfl
theorem Tryzres408 : Tryzfi408.results = Tryz.f408.results.toList := rfl
theorem Tryznt408 : Tryzfi408.ntmps = Tryz.f408.ntmps := rfl
theorem Tryzbody408 : Tryzfi408.body = (Tryz.f408.body).getD .skip := rfl
theorem TryzfiAt409 : Tryzfi.get 409 = some Tryzfi409 := by rfl
theorem Tryzjoin409 : Tryzfi409.join = false := rfl
theorem Tryzres409 : Tryzfi409.results = Tryz.f409.results.toList := rfl
theorem Tryznt409 : Tryzfi409.ntmps = Tryz.f409.ntmps := rfl
theorem Tryzbody409 : Tryzfi409.body = (Tryz.f409.body).getD .skip := rfl
theorem TryzfiAt410 : Tryzfi.get 410 = some Tryzfi410 := by rfl
theorem Tryzjoin410 : Tryzfi410.join = false := rfl
theorem Tryzres410 : Tryzfi410.results = Tryz.f410.results.toList := rfl
theorem Tryznt410 : Tryzfi410.ntmps = Tryz.f410.ntmps := rfl
theorem Tryzbody410 : Tryzfi410.body = (Tryz.f410.body).getD .skip := rfl
theorem TryzfiAt411 : Tryzfi.get 411 = some Tryzfi411 := by rfl
theorem Tryzjoin411 : Tryzfi411.join = false := rfl
theorem Tryzres411 : Tryzfi411.results = Tryz.f411.results.toList := rfl
theorem Tryznt411 : Tryzfi411.ntmps = Tryz.f411.ntmps := rfl
theorem Tryzbody411 : Tryzfi411.body = (Tryz.f411.body).getD .skip := rfl
theorem TryzfiAt412 : Tryzfi.get 412 = some Tryzfi412 := by rfl
theorem Tryzjoin412 : Tryzfi412.join = false := rfl
theorem Tryzres412 : Tryzfi412.results = Tryz.f412.results.toList := rfl
theorem Tryznt412 : Tryzfi412.ntmps = Tryz.f412.ntmps := rfl
theorem Tryzbody412 : Tryzfi412.body = (Tryz.f412.body).getD .skip := rfl
theorem TryzfiAt413 : Tryzfi.get 413 = some Tryzfi413 := by rfl
theorem Tryzjoin413 : Tryzfi413.join = false := rfl
theorem Tryzres413 : Tryzfi413.results = Tryz.f413.results.toList := rfl
theorem Tryznt413 : Tryzfi413.ntmps = Tryz.f413.ntmps := rfl
theorem Tryzbody413 : Tryzfi413.body = (Tryz.f413.body).getD .skip := rfl
theorem TryzfiAt414 : Tryzfi.get 414 = some Tryzfi414 := by rfl
theorem Tryzjoin414 : Tryzfi414.join = false := rfl
theorem Tryzres414 : Tryzfi414.results = Tryz.f414.results.toList := rfl
theorem Tryznt414 : Tryzfi414.ntmps = Tryz.f414.ntmps := rfl
theorem Tryzbody414 : Tryzfi414.body = (Tryz.f414.body).getD .skip := rfl
theorem TryzfiAt415 : Tryzfi.get 415 = some Tryzfi415 := by rfl
theorem Tryzjoin415 : Tryzfi415.join = false := rfl
theorem Tryzres415 : Tryzfi415.results = Tryz.f415.results.toList := rfl
theorem Tryznt415 : Tryzfi415.ntmps = Tryz.f415.ntmps := rfl
theorem Tryzbody415 : Tryzfi415.body = (Tryz.f415.body).getD .skip := rfl
theorem TryzfiAt416 : Tryzfi.get 416 = some Tryzfi416 := by rfl
theorem Tryzjoin416 : Tryzfi416.join = false := rfl
theorem Tryzres416 : Tryzfi416.results = Tryz.f416.results.toList := rfl
theorem Tryznt416 : Tryzfi416.ntmps = Tryz.f416.ntmps := rfl
theorem Tryzbody416 : Tryzfi416.body = (Tryz.f416.body).getD .skip := rfl
theorem TryzfiAt417 : Tryzfi.get 417 = some Tryzfi417 := by rfl
theorem Tryzjoin417 : Tryzfi417.join = false := rfl
theorem Tryzres417 : Tryzfi417.results = Tryz.f417.results.toList := rfl
theorem Tryznt417 : Tryzfi417.ntmps = Tryz.f417.ntmps := rfl
theorem Tryzbody417 : Tryzfi417.body = (Tryz.f417.body).getD .skip := rfl
theorem TryzfiAt418 : Tryzfi.get 418 = some Tryzfi418 := by rfl
theorem Tryzjoin418 : Tryzfi418.join = false := rfl
theorem Tryzres418 : Tryzfi418.results = Tryz.f418.results.toList := rfl
theorem Tryznt418 : Tryzfi418.ntmps = Tryz.f418.ntmps := rfl
theorem Tryzbody418 : Tryzfi418.body = (Tryz.f418.body).getD .skip := rfl
theorem TryzfiAt419 : Tryzfi.get 419 = some Tryzfi419 := by rfl
theorem Tryzjoin419 : Tryzfi419.join = false := rfl
theorem Tryzres419 : Tryzfi419.results = Tryz.f419.results.toList := rfl
theorem Tryznt419 : Tryzfi419.ntmps = Tryz.f419.ntmps := rfl
theorem Tryzbody419 : Tryzfi419.body = (Tryz.f419.body).getD .skip := rfl
theorem TryzfiAt420 : Tryzfi.get 420 = some Tryzfi420 := by rfl
theorem Tryzjoin420 : Tryzfi420.join = false := rfl
theorem Tryzres420 : Tryzfi420.results = Tryz.f420.results.toList := rfl
theorem Tryznt420 : Tryzfi420.ntmps = Tryz.f420.ntmps := rfl
theorem Tryzbody420 : Tryzfi420.body = (Tryz.f420.body).getD .skip := rfl
theorem TryzfiAt421 : Tryzfi.get 421 = some Tryzfi421 := by rfl
theorem Tryzjoin421 : Tryzfi421.join = false := rfl
theorem Tryzres421 : Tryzfi421.results = Tryz.f421.results.toList := rfl
theorem Tryznt421 : Tryzfi421.ntmps = Tryz.f421.ntmps := rfl
theorem Tryzbody421 : Tryzfi421.body = (Tryz.f421.body).getD .skip := rfl
theorem TryzfiAt422 : Tryzfi.get 422 = some Tryzfi422 := by rfl
theorem Tryzjoin422 : Tryzfi422.join = false := rfl
theorem Tryzres422 : Tryzfi422.results = Tryz.f422.results.toList := rfl
theorem Tryznt422 : Tryzfi422.ntmps = Tryz.f422.ntmps := rfl
theorem Tryzbody422 : Tryzfi422.body = (Tryz.f422.body).getD .skip := rfl
theorem TryzfiAt423 : Tryzfi.get 423 = some Tryzfi423 := by rfl
theorem Tryzjoin423 : Tryzfi423.join = false := rfl
theorem Tryzres423 : Tryzfi423.results = Tryz.f423.results.toList := rfl
theorem Tryznt423 : Tryzfi423.ntmps = Tryz.f423.ntmps := rfl
theorem Tryzbody423 : Tryzfi423.body = (Tryz.f423.body).getD .skip := rfl
theorem TryzfiAt424 : Tryzfi.get 424 = some Tryzfi424 := by rfl
theorem Tryzjoin424 : Tryzfi424.join = false := rfl
theorem Tryzres424 : Tryzfi424.results = Tryz.f424.results.toList := rfl
theorem Tryznt424 : Tryzfi424.ntmps = Tryz.f424.ntmps := rfl
theorem Tryzbody424 : Tryzfi424.body = (Tryz.f424.body).getD .skip := rfl
theorem TryzfiAt425 : Tryzfi.get 425 = some Tryzfi425 := by rfl
theorem Tryzjoin425 : Tryzfi425.join = false := rfl
theorem Tryzres425 : Tryzfi425.results = Tryz.f425.results.toList := rfl
theorem Tryznt425 : Tryzfi425.ntmps = Tryz.f425.ntmps := rfl
theorem Tryzbody425 : Tryzfi425.body = (Tryz.f425.body).getD .skip := rfl
theorem TryzfiAt426 : Tryzfi.get 426 = some Tryzfi426 := by rfl
theorem Tryzjoin426 : Tryzfi426.join = false := rfl
theorem Tryzres426 : Tryzfi426.results = Tryz.f426.results.toList := rfl
theorem Tryznt426 : Tryzfi426.ntmps = Tryz.f426.ntmps := rfl
theorem Tryzbody426 : Tryzfi426.body = (Tryz.f426.body).getD .skip := rfl
theorem TryzfiAt427 : Tryzfi.get 427 = some Tryzfi427 := by rfl
theorem Tryzjoin427 : Tryzfi427.join = false := rfl
theorem Tryzres427 : Tryzfi427.results = Tryz.f427.results.toList := rfl
theorem Tryznt427 : Tryzfi427.ntmps = Tryz.f427.ntmps := rfl
theorem Tryzbody427 : Tryzfi427.body = (Tryz.f427.body).getD .skip := rfl
theorem TryzfiAt428 : Tryzfi.get 428 = some Tryzfi428 := by rfl
theorem Tryzjoin428 : Tryzfi428.join = false := rfl
theorem Tryzres428 : Tryzfi428.results = Tryz.f428.results.toList := rfl
theorem Tryznt428 : Tryzfi428.ntmps = Tryz.f428.ntmps := rfl
theorem Tryzbody428 : Tryzfi428.body = (Tryz.f428.body).getD .skip := rfl
theorem TryzfiAt429 : Tryzfi.get 429 = some Tryzfi429 := by rfl
theorem Tryzjoin429 : Tryzfi429.join = false := rfl
theorem Tryzres429 : Tryzfi429.results = Tryz.f429.results.toList := rfl
theorem Tryznt429 : Tryzfi429.ntmps = Tryz.f429.ntmps := rfl
theorem Tryzbody429 : Tryzfi429.body = (Tryz.f429.body).getD .skip := rfl
theorem TryzfiAt430 : Tryzfi.get 430 = some Tryzfi430 := by rfl
theorem Tryzjoin430 : Tryzfi430.join = false := rfl
theorem Tryzres430 : Tryzfi430.results = Tryz.f430.results.toList := rfl
theorem Tryznt430 : Tryzfi430.ntmps = Tryz.f430.ntmps := rfl
theorem Tryzbody430 : Tryzfi430.body = (Tryz.f430.body).getD .skip := rfl
theorem TryzfiAt431 : Tryzfi.get 431 = some Tryzfi431 := by rfl
theorem Tryzjoin431 : Tryzfi431.join = false := rfl
theorem Tryzres431 : Tryzfi431.results = Tryz.f431.results.toList := rfl
theorem Tryznt431 : Tryzfi431.ntmps = Tryz.f431.ntmps := rfl
theorem Tryzbody431 : Tryzfi431.body = (Tryz.f431.body).getD .skip := rfl
theorem TryzfiAt432 : Tryzfi.get 432 = some Tryzfi432 := by rfl
theorem Tryzjoin432 : Tryzfi432.join = false := rfl
theorem Tryzres432 : Tryzfi432.results = Tryz.f432.results.toList := rfl
theorem Tryznt432 : Tryzfi432.ntmps = Tryz.f432.ntmps := rfl
theorem Tryzbody432 : Tryzfi432.body = (Tryz.f432.body).getD .skip := rfl
theorem TryzfiAt433 : Tryzfi.get 433 = some Tryzfi433 := by rfl
theorem Tryzjoin433 : Tryzfi433.join = false := rfl
theorem Tryzres433 : Tryzfi433.results = Tryz.f433.results.toList := rfl
theorem Tryznt433 : Tryzfi433.ntmps = Tryz.f433.ntmps := rfl
theorem Tryzbody433 : Tryzfi433.body = (Tryz.f433.body).getD .skip := rfl
theorem TryzfiAt435 : Tryzfi.get 435 = some Tryzfi435 := by rfl
theorem Tryzjoin435 : Tryzfi435.join = false := rfl
theorem Tryzres435 : Tryzfi435.results = Tryz.f435.results.toList := rfl
theorem Tryznt435 : Tryzfi435.ntmps = Tryz.f435.ntmps := rfl
theorem Tryzbody435 : Tryzfi435.body = (Tryz.f435.body).getD .skip := rfl
theorem TryzfiAt436 : Tryzfi.get 436 = some Tryzfi436 := by rfl
theorem Tryzjoin436 : Tryzfi436.join = false := rfl
theorem Tryzres436 : Tryzfi436.results = Tryz.f436.results.toList := rfl
theorem Tryznt436 : Tryzfi436.ntmps = Tryz.f436.ntmps := rfl
theorem Tryzbody436 : Tryzfi436.body = (Tryz.f436.body).getD .skip := rfl
theorem TryzfiAt437 : Tryzfi.get 437 = some Tryzfi437 := by rfl
theorem Tryzjoin437 : Tryzfi437.join = false := rfl
theorem Tryzres437 : Tryzfi437.results = Tryz.f437.results.toList := rfl
theorem Tryznt437 : Tryzfi437.ntmps = Tryz.f437.ntmps := rfl
theorem Tryzbody437 : Tryzfi437.body = (Tryz.f437.body).getD .skip := rfl
theorem TryzfiAt438 : Tryzfi.get 438 = some Tryzfi438 := by rfl
theorem Tryzjoin438 : Tryzfi438.join = false := rfl
theorem Tryzres438 : Tryzfi438.results = Tryz.f438.results.toList := rfl
theorem Tryznt438 : Tryzfi438.ntmps = Tryz.f438.ntmps := rfl
theorem Tryzbody438 : Tryzfi438.body = (Tryz.f438.body).getD .skip := rfl
theorem TryzfiAt439 : Tryzfi.get 439 = some Tryzfi439 := by rfl
theorem Tryzjoin439 : Tryzfi439.join = false := rfl
theorem Tryzres439 : Tryzfi439.results = Tryz.f439.results.toList := rfl
theorem Tryznt439 : Tryzfi439.ntmps = Tryz.f439.ntmps := rfl
theorem Tryzbody439 : Tryzfi439.body = (Tryz.f439.body).getD .skip := rfl
theorem TryzfiAt440 : Tryzfi.get 440 = some Tryzfi440 := by rfl
theorem Tryzjoin440 : Tryzfi440.join = false := rfl
theorem Tryzres440 : Tryzfi440.results = Tryz.f440.results.toList := rfl
theorem Tryznt440 : Tryzfi440.ntmps = Tryz.f440.ntmps := rfl
theorem Tryzbody440 : Tryzfi440.body = (Tryz.f440.body).getD .skip := rfl
theorem TryzfiAt441 : Tryzfi.get 441 = some Tryzfi441 := by rfl
theorem Tryzjoin441 : Tryzfi441.join = false := rfl
theorem Tryzres441 : Tryzfi441.results = Tryz.f441.results.toList := rfl
theorem Tryznt441 : Tryzfi441.ntmps = Tryz.f441.ntmps := rfl
theorem Tryzbody441 : Tryzfi441.body = (Tryz.f441.body).getD .skip := rfl
theorem TryzfiAt442 : Tryzfi.get 442 = some Tryzfi442 := by rfl
theorem Tryzjoin442 : Tryzfi442.join = false := rfl
theorem Tryzres442 : Tryzfi442.results = Tryz.f442.results.toList := rfl
theorem Tryznt442 : Tryzfi442.ntmps = Tryz.f442.ntmps := rfl
theorem Tryzbody442 : Tryzfi442.body = (Tryz.f442.body).getD .skip := rfl
theorem TryzfiAt443 : Tryzfi.get 443 = some Tryzfi443 := by rfl
theorem Tryzjoin443 : Tryzfi443.join = false := rfl
theorem Tryzres443 : Tryzfi443.results = Tryz.f443.results.toList := rfl
theorem Tryznt443 : Tryzfi443.ntmps = Tryz.f443.ntmps := rfl
theorem Tryzbody443 : Tryzfi443.body = (Tryz.f443.body).getD .skip := rfl
theorem TryzfiAt444 : Tryzfi.get 444 = some Tryzfi444 := by rfl
theorem Tryzjoin444 : Tryzfi444.join = false := rfl
theorem Tryzres444 : Tryzfi444.results = Tryz.f444.results.toList := rfl
theorem Tryznt444 : Tryzfi444.ntmps = Tryz.f444.ntmps := rfl
theorem Tryzbody444 : Tryzfi444.body = (Tryz.f444.body).getD .skip := rfl
theorem TryzfiAt445 : Tryzfi.get 445 = some Tryzfi445 := by rfl
theorem Tryzjoin445 : Tryzfi445.join = false := rfl
theorem Tryzres445 : Tryzfi445.results = Tryz.f445.results.toList := rfl
theorem Tryznt445 : Tryzfi445.ntmps = Tryz.f445.ntmps := rfl
theorem Tryzbody445 : Tryzfi445.body = (Tryz.f445.body).getD .skip := rfl
theorem TryzfiAt446 : Tryzfi.get 446 = some Tryzfi446 := by rfl
theorem Tryzjoin446 : Tryzfi446.join = false := rfl
theorem Tryzres446 : Tryzfi446.results = Tryz.f446.results.toList := rfl
theorem Tryznt446 : Tryzfi446.ntmps = Tryz.f446.ntmps := rfl
theorem Tryzbody446 : Tryzfi446.body = (Tryz.f446.body).getD .skip := rfl
theorem TryzfiAt447 : Tryzfi.get 447 = some Tryzfi447 := by rfl
theorem Tryzjoin447 : Tryzfi447.join = false := rfl
theorem Tryzres447 : Tryzfi447.results = Tryz.f447.results.toList := rfl
theorem Tryznt447 : Tryzfi447.ntmps = Tryz.f447.ntmps := rfl
theorem Tryzbody447 : Tryzfi447.body = (Tryz.f447.body).getD .skip := rfl
theorem TryzfiAt448 : Tryzfi.get 448 = some Tryzfi448 := by rfl
theorem Tryzjoin448 : Tryzfi448.join = false := rfl
theorem Tryzres448 : Tryzfi448.results = Tryz.f448.results.toList := rfl
theorem Tryznt448 : Tryzfi448.ntmps = Tryz.f448.ntmps := rfl
theorem Tryzbody448 : Tryzfi448.body = (Tryz.f448.body).getD .skip := rfl
theorem TryzfiAt449 : Tryzfi.get 449 = some Tryzfi449 := by rfl
theorem Tryzjoin449 : Tryzfi449.join = false := rfl
theorem Tryzres449 : Tryzfi449.results = Tryz.f449.results.toList := rfl
theorem Tryznt449 : Tryzfi449.ntmps = Tryz.f449.ntmps := rfl
theorem Tryzbody449 : Tryzfi449.body = (Tryz.f449.body).getD .skip := rfl
theorem TryzfiAt450 : Tryzfi.get 450 = some Tryzfi450 := by rfl
theorem Tryzjoin450 : Tryzfi450.join = false := rfl
theorem Tryzres450 : Tryzfi450.results = Tryz.f450.results.toList := rfl
theorem Tryznt450 : Tryzfi450.ntmps = Tryz.f450.ntmps := rfl
theorem Tryzbody450 : Tryzfi450.body = (Tryz.f450.body).getD .skip := rfl
theorem TryzfiAt451 : Tryzfi.get 451 = some Tryzfi451 := by rfl
theorem Tryzjoin451 : Tryzfi451.join = false := rfl
theorem Tryzres451 : Tryzfi451.results = Tryz.f451.results.toList := rfl
theorem Tryznt451 : Tryzfi451.ntmps = Tryz.f451.ntmps := rfl
theorem Tryzbody451 : Tryzfi451.body = (Tryz.f451.body).getD .skip := rfl
theorem TryzfiAt452 : Tryzfi.get 452 = some Tryzfi452 := by rfl
theorem Tryzjoin452 : Tryzfi452.join = false := rfl
theorem Tryzres452 : Tryzfi452.results = Tryz.f452.results.toList := rfl
theorem Tryznt452 : Tryzfi452.ntmps = Tryz.f452.ntmps := rfl
theorem Tryzbody452 : Tryzfi452.body = (Tryz.f452.body).getD .skip := rfl
theorem TryzfiAt476 : Tryzfi.get 476 = some Tryzfi476 := by rfl
theorem Tryzjoin476 : Tryzfi476.join = false := rfl
theorem Tryzres476 : Tryzfi476.results = Tryz.f476.results.toList := rfl
theorem Tryznt476 : Tryzfi476.ntmps = Tryz.f476.ntmps := rfl
theorem Tryzbody476 : Tryzfi476.body = (Tryz.f476.body).getD .skip := rfl
theorem Tryzplan3at1 : Tryzfi3.plans.get 1 = some [(0, 0, 3)] := by rfl
theorem Tryzplan3at3 : Tryzfi3.plans.get 3 = some [(0, 0, 1)] := by rfl
theorem Tryzplan4at12 : Tryzfi4.plans.get 12 = some [(0, 0, 0), (6, 0, 0)] := by rfl
theorem Tryzplan14at9 : Tryzfi14.plans.get 9 = some [(5, 0, 0), (7, 0, 0), (8, 0, 0)] := by rfl
theorem Tryzplan14at14 : Tryzfi14.plans.get 14 = some [(1, 0, 0), (4, 0, 1), (7, 0, 2)] := by rfl
theorem Tryzplan14at22 : Tryzfi14.plans.get 22 = some [(4, 0, 0), (6, 0, 0), (7, 0, 0)] := by rfl
theorem Tryzplan16at7 : Tryzfi16.plans.get 7 = some [(1, 0, 1), (5, 0, 0)] := by rfl
theorem Tryzplan16at5 : Tryzfi16.plans.get 5 = some [(1, 0, 0), (5, 0, 0), (9, 0, 0)] := by rfl
theorem Tryzplan30at1 : Tryzfi30.plans.get 1 = some [(3, 0, 1), (6, 1, 1)] := by rfl
theorem Tryzplan32at7 : Tryzfi32.plans.get 7 = some [(3, 0, 0), (5, 0, 0)] := by rfl
theorem Tryzplan32at11 : Tryzfi32.plans.get 11 = some [(3, 0, 0), (5, 0, 0)] := by rfl
theorem Tryzplan34at6 : Tryzfi34.plans.get 6 = some [(3, 0, 0), (7, 0, 0)] := by rfl
theorem Tryzplan52at18 : Tryzfi52.plans.get 18 = some [(0, 0, 1), (1, 0, 0)] := by rfl
theorem Tryzplan63at5 : Tryzfi63.plans.get 5 = some [(3, 0, 0), (4, 0, 0)] := by rfl
theorem Tryzplan64at1 : Tryzfi64.plans.get 1 = some [(3, 0, 0), (7, 0, 0), (11, 0, 0)] := by rfl
theorem Tryzplan65at1 : Tryzfi65.plans.get 1 = some [(6, 0, 0), (11, 0, 0)] := by rfl
theorem Tryzplan67at5 : Tryzfi67.plans.get 5 = some [(3, 0, 0), (4, 0, 0), (5, 0, 0)] := by rfl
theorem Tryzplan67at6 : Tryzfi67.plans.get 6 = some [(3, 0, 0), (13, 1, 1), (15, 1, 1), (19, 1, 1), (21, 1, 1)] := by rfl
theorem Tryzplan69at15 : Tryzfi69.plans.get 15 = some [(3, 0, 0), (7, 0, 0), (11, 0, 0), (15, 0, 0), (16, 0, 0)] := by rfl
theorem Tryzplan69at9 : Tryzfi69.plans.get 9 = some [(3, 0, 0), (6, 0, 0)] := by rfl
theorem Tryzplan71at0 : Tryzfi71.plans.get 0 = some [(3, 0, 1), (6, 0, 1)] := by rfl
theorem Tryzplan76at9 : Tryzfi76.plans.get 9 = some [(2, 0, 0), (6, 0, 1)] := by rfl
theorem Tryzplan79at15 : Tryzfi79.plans.get 15 = some [(1, 0, 0), (3, 0, 1), (5, 0, 2)] := by rfl
theorem Tryzplan79at19 : Tryzfi79.plans.get 19 = some [(1, 0, 0), (3, 0, 1)] := by rfl
theorem Tryzplan79at8 : Tryzfi79.plans.get 8 = some [(1, 0, 0), (3, 0, 1), (5, 0, 2), (7, 0, 3), (9, 0, 4)] := by rfl
theorem Tryzplan93at10 : Tryzfi93.plans.get 10 = some [(3, 0, 0), (6, 0, 1)] := by rfl
theorem Tryzplan95at12 : Tryzfi95.plans.get 12 = some [(2, 0, 1), (5, 0, 0)] := by rfl
theorem Tryzplan97at8 : Tryzfi97.plans.get 8 = some [] := by rfl
theorem Tryzplan105at2 : Tryzfi105.plans.get 2 = some [(6, 0, 0), (7, 0, 0), (8, 0, 0)] := by rfl
theorem Tryzplan105at4 : Tryzfi105.plans.get 4 = some [(3, 0, 0), (4, 0, 0)] := by rfl
theorem Tryzplan106at6 : Tryzfi106.plans.get 6 = some [(4, 0, 0), (5, 0, 0)] := by rfl
theorem Tryzplan110at5 : Tryzfi110.plans.get 5 = some [(3, 0, 0), (7, 0, 0), (11, 0, 0), (15, 0, 0), (16, 0, 0)] := by rfl
theorem Tryzplan111at2 : Tryzfi111.plans.get 2 = some [(3, 0, 0), (7, 0, 0), (11, 0, 0), (15, 0, 0), (16, 0, 0)] := by rfl
theorem Tryzplan124at6 : Tryzfi124.plans.get 6 = some [(3, 0, 0), (7, 0, 0)] := by rfl
theorem Tryzplan125at6 : Tryzfi125.plans.get 6 = some [(3, 0, 0), (7, 0, 0)] := by rfl
theorem Tryzplan129at5 : Tryzfi129.plans.get 5 = some [(3, 0, 1)] := by rfl
theorem Tryzplan141at7 : Tryzfi141.plans.get 7 = some [] := by rfl
theorem Tryzplan147at12 : Tryzfi147.plans.get 12 = some [] := by rfl
theorem Tryzplan151at3 : Tryzfi151.plans.get 3 = some [(0, 0, 0), (4, 0, 0), (6, 0, 0)] := by rfl
theorem Tryzplan153at2 : Tryzfi153.plans.get 2 = some [(1, 0, 1), (3, 0, 0), (8, 1, 1), (13, 2, 2)] := by rfl
theorem Tryzplan153at16 : Tryzfi153.plans.get 16 = some [(3, 0, 0), (7, 0, 1), (10, 0, 1)] := by rfl
theorem Tryzplan153at6 : Tryzfi153.plans.get 6 = some [(0, 0, 0), (2, 0, 1)] := by rfl
theorem Tryzplan153at14 : Tryzfi153.plans.get 14 = some [(1, 0, 0), (3, 0, 1)] := by rfl
theorem Tryzplan156at0 : Tryzfi156.plans.get 0 = some [(1, 0, 1)] := by rfl
theorem Tryzplan161at7 : Tryzfi161.plans.get 7 = some [(4, 0, 0), (8, 0, 0), (11, 0, 1)] := by rfl
theorem Tryzplan169at2 : Tryzfi169.plans.get 2 = some [(1, 0, 1)] := by rfl
theorem Tryzplan174at1 : Tryzfi174.plans.get 1 = some [(4, 0, 0), (7, 0, 0), (10, 0, 0), (11, 0, 0), (12, 0, 0)] := by rfl
theorem Tryzplan174at2 : Tryzfi174.plans.get 2 = some [(6, 0, 0), (7, 0, 0)] := by rfl
theorem Tryzplan176at3 : Tryzfi176.plans.get 3 = some [(3, 0, 0), (4, 0, 0)] := by rfl
theorem Tryzplan176at6 : Tryzfi176.plans.get 6 = some [(3, 0, 0), (5, 0, 0), (7, 0, 0)] := by rfl
theorem Tryzplan183at3 : Tryzfi183.plans.get 3 = some [(1, 0, 0), (4, 0, 1)] := by rfl
theorem Tryzplan186at17 : Tryzfi186.plans.get 17 = some [(8, 0, 0), (12, 0, 0)] := by rfl
theorem Tryzplan192at3 : Tryzfi192.plans.get 3 = some [(3, 0, 0), (8, 0, 0)] := by rfl
theorem Tryzplan194at1 : Tryzfi194.plans.get 1 = some [(3, 0, 0), (8, 0, 1)] := by rfl
theorem Tryzplan198at1 : Tryzfi198.plans.get 1 = some [(1, 0, 0), (3, 0, 0), (6, 0, 1), (8, 0, 1)] := by rfl
theorem Tryzplan202at5 : Tryzfi202.plans.get 5 = some [(0, 0, 2), (1, 0, 3), (2, 0, 0), (5, 0, 0), (7, 0, 1), (10, 0, 1)] := by rfl
theorem Tryzplan202at13 : Tryzfi202.plans.get 13 = some [(0, 0, 1), (1, 0, 0), (4, 0, 0)] := by rfl
theorem Tryzplan202at4 : Tryzfi202.plans.get 4 = some [(0, 0, 1), (3, 0, 1), (4, 0, 0), (7, 0, 0)] := by rfl
theorem Tryzplan202at16 : Tryzfi202.plans.get 16 = some [(0, 0, 3), (1, 0, 4), (2, 0, 5), (3, 0, 0), (6, 0, 0), (8, 0, 1), (11, 0, 1), (13, 0, 2), (16, 0, 2)] := by rfl
theorem Tryzplan202at20 : Tryzfi202.plans.get 20 = some [(0, 0, 1), (1, 0, 0), (4, 0, 0)] := by rfl
theorem Tryzplan202at10 : Tryzfi202.plans.get 10 = some [(0, 0, 1), (1, 0, 0), (4, 0, 0)] := by rfl
theorem Tryzplan202at18 : Tryzfi202.plans.get 18 = some [(0, 0, 1), (1, 0, 2), (2, 0, 0), (5, 0, 0)] := by rfl
theorem Tryzplan202at22 : Tryzfi202.plans.get 22 = some [(0, 0, 0), (3, 0, 0), (4, 0, 0), (7, 0, 0), (10, 0, 0)] := by rfl
theorem Tryzplan216at14 : Tryzfi216.plans.get 14 = some [(0, 0, 1), (1, 0, 0), (3, 0, 0), (5, 0, 0)] := by rfl
theorem Tryzplan218at9 : Tryzfi218.plans.get 9 = some [(3, 0, 0), (4, 0, 0), (5, 0, 0)] := by rfl
theorem Tryzplan218at4 : Tryzfi218.plans.get 4 = some [(3, 0, 0), (4, 0, 0), (5, 0, 0)] := by rfl
theorem Tryzplan225at9 : Tryzfi225.plans.get 9 = some [(3, 0, 0), (7, 0, 0), (11, 0, 0), (12, 0, 0)] := by rfl
theorem Tryzplan225at8 : Tryzfi225.plans.get 8 = some [(3, 0, 0), (4, 0, 0), (5, 0, 0)] := by rfl
theorem Tryzplan225at12 : Tryzfi225.plans.get 12 = some [(3, 0, 0), (4, 0, 0)] := by rfl
theorem Tryzplan225at10 : Tryzfi225.plans.get 10 = some [(3, 0, 1), (7, 0, 0), (11, 0, 0), (12, 0, 0), (16, 0, 0)] := by rfl
theorem Tryzplan225at14 : Tryzfi225.plans.get 14 = some [(4, 0, 0), (8, 0, 0)] := by rfl
theorem Tryzplan227at9 : Tryzfi227.plans.get 9 = some [(1, 0, 0), (4, 0, 1)] := by rfl
theorem Tryzplan235at4 : Tryzfi235.plans.get 4 = some [(8, 0, 0), (13, 0, 0)] := by rfl
theorem Tryzplan235at6 : Tryzfi235.plans.get 6 = some [(9, 0, 0), (13, 0, 0)] := by rfl
theorem Tryzplan236at10 : Tryzfi236.plans.get 10 = some [(11, 0, 0), (15, 0, 0)] := by rfl
theorem Tryzplan237at10 : Tryzfi237.plans.get 10 = some [(11, 0, 0), (15, 0, 0)] := by rfl
theorem Tryzplan239at3 : Tryzfi239.plans.get 3 = some [(7, 0, 0), (11, 0, 0)] := by rfl
theorem Tryzplan240at23 : Tryzfi240.plans.get 23 = some [(9, 0, 0), (13, 0, 0)] := by rfl
theorem Tryzplan240at11 : Tryzfi240.plans.get 11 = some [(9, 0, 0), (13, 0, 0)] := by rfl
theorem Tryzplan240at5 : Tryzfi240.plans.get 5 = some [(8, 0, 0), (13, 0, 0)] := by rfl
theorem Tryzplan240at17 : Tryzfi240.plans.get 17 = some [(9, 0, 0), (13, 0, 0)] := by rfl
theorem Tryzplan240at16 : Tryzfi240.plans.get 16 = some [(4, 0, 0), (9, 0, 0)] := by rfl
theorem Tryzplan240at22 : Tryzfi240.plans.get 22 = some [(4, 0, 0), (9, 0, 0)] := by rfl
theorem Tryzplan241at1 : Tryzfi241.plans.get 1 = some [(7, 0, 0), (11, 0, 0)] := by rfl
theorem Tryzplan241at3 : Tryzfi241.plans.get 3 = some [(8, 0, 0), (12, 0, 0)] := by rfl
theorem Tryzplan241at5 : Tryzfi241.plans.get 5 = some [(8, 0, 0), (12, 0, 0)] := by rfl
theorem Tryzplan241at8 : Tryzfi241.plans.get 8 = some [(7, 0, 0), (11, 0, 0)] := by rfl
theorem Tryzplan242at1 : Tryzfi242.plans.get 1 = some [(7, 0, 0), (11, 0, 0)] := by rfl
theorem Tryzplan242at3 : Tryzfi242.plans.get 3 = some [(8, 0, 0), (12, 0, 0)] := by rfl
theorem Tryzplan242at15 : Tryzfi242.plans.get 15 = some [(8, 0, 0), (12, 0, 0)] := by rfl
theorem Tryzplan242at5 : Tryzfi242.plans.get 5 = some [(8, 0, 0), (12, 0, 0)] := by rfl
theorem Tryzplan242at13 : Tryzfi242.plans.get 13 = some [(8, 0, 0), (12, 0, 0)] := by rfl
theorem Tryzplan242at21 : Tryzfi242.plans.get 21 = some [(7, 0, 0), (11, 0, 0)] := by rfl
theorem Tryzplan242at8 : Tryzfi242.plans.get 8 = some [(7, 0, 0), (11, 0, 0)] := by rfl
theorem Tryzplan242at10 : Tryzfi242.plans.get 10 = some [(7, 0, 0), (11, 0, 0)] := by rfl
theorem Tryzplan242at18 : Tryzfi242.plans.get 18 = some [(7, 0, 0), (11, 0, 0)] := by rfl
theorem Tryzplan246at4 : Tryzfi246.plans.get 4 = some [] := by rfl
theorem Tryzplan248at13 : Tryzfi248.plans.get 13 = some [] := by rfl
theorem Tryzplan250at0 : Tryzfi250.plans.get 0 = some [(3, 0, 0), (12, 0, 1)] := by rfl
theorem Tryzplan256at0 : Tryzfi256.plans.get 0 = some [(5, 0, 0), (10, 0, 1)] := by rfl
theorem Tryzplan256at1 : Tryzfi256.plans.get 1 = some [(3, 0, 1), (7, 0, 0)] := by rfl
theorem Tryzplan256at3 : Tryzfi256.plans.get 3 = some [(3, 0, 1), (7, 0, 0)] := by rfl
theorem Tryzplan256at7 : Tryzfi256.plans.get 7 = some [(3, 0, 0), (6, 0, 0), (9, 0, 0), (13, 0, 0), (16, 0, 0), (19, 0, 0)] := by rfl
theorem Tryzplan256at11 : Tryzfi256.plans.get 11 = some [(2, 0, 1), (6, 0, 0)] := by rfl
theorem Tryzplan256at10 : Tryzfi256.plans.get 10 = some [(3, 0, 0), (7, 0, 0), (10, 0, 0)] := by rfl
theorem Tryzplan257at0 : Tryzfi257.plans.get 0 = some [(0, 0, 2), (1, 0, 1), (6, 0, 1)] := by rfl
theorem Tryzplan260at0 : Tryzfi260.plans.get 0 = some [(0, 0, 2), (1, 0, 3)] := by rfl
theorem Tryzplan261at0 : Tryzfi261.plans.get 0 = some [(4, 0, 0), (9, 0, 1), (14, 0, 2)] := by rfl
theorem Tryzplan261at2 : Tryzfi261.plans.get 2 = some [(3, 0, 1), (7, 0, 0)] := by rfl
theorem Tryzplan271at17 : Tryzfi271.plans.get 17 = some [(1, 0, 0), (5, 0, 0)] := by rfl
theorem Tryzplan274at8 : Tryzfi274.plans.get 8 = some [(0, 0, 1), (3, 1, 1)] := by rfl
theorem Tryzplan277at17 : Tryzfi277.plans.get 17 = some [(3, 0, 1), (5, 0, 1), (6, 0, 0)] := by rfl
theorem Tryzplan277at20 : Tryzfi277.plans.get 20 = some [(3, 0, 1), (8, 0, 0)] := by rfl
theorem Tryzplan277at6 : Tryzfi277.plans.get 6 = some [(3, 0, 0), (5, 0, 0), (6, 0, 0)] := by rfl
theorem Tryzplan278at3 : Tryzfi278.plans.get 3 = some [(3, 0, 0), (4, 0, 0), (5, 0, 0)] := by rfl
theorem Tryzplan278at11 : Tryzfi278.plans.get 11 = some [(3, 0, 1), (8, 0, 0), (10, 0, 0)] := by rfl
theorem Tryzplan278at9 : Tryzfi278.plans.get 9 = some [(3, 0, 0), (4, 0, 0)] := by rfl
theorem Tryzplan278at6 : Tryzfi278.plans.get 6 = some [(3, 0, 0), (4, 0, 0), (5, 0, 0)] := by rfl
theorem Tryzplan278at10 : Tryzfi278.plans.get 10 = some [(3, 0, 0), (4, 0, 0)] := by rfl
theorem Tryzplan281at3 : Tryzfi281.plans.get 3 = some [(3, 0, 0), (5, 0, 0), (6, 0, 0)] := by rfl
theorem Tryzplan281at9 : Tryzfi281.plans.get 9 = some [(3, 0, 1), (5, 0, 1), (6, 0, 0)] := by rfl
theorem Tryzplan285at1 : Tryzfi285.plans.get 1 = some [(8, 0, 0), (12, 0, 0)] := by rfl
theorem Tryzplan286at1 : Tryzfi286.plans.get 1 = some [(2, 0, 1), (3, 0, 0)] := by rfl
theorem Tryzplan286at2 : Tryzfi286.plans.get 2 = some [(1, 0, 1), (2, 0, 0), (4, 0, 0), (6, 0, 0)] := by rfl
theorem Tryzplan292at3 : Tryzfi292.plans.get 3 = some [(11, 0, 0), (18, 0, 0)] := by rfl
theorem Tryzplan292at5 : Tryzfi292.plans.get 5 = some [(6, 0, 0), (12, 0, 0)] := by rfl
theorem Tryzplan292at6 : Tryzfi292.plans.get 6 = some [(13, 0, 0), (19, 0, 0)] := by rfl
theorem Tryzplan294at1 : Tryzfi294.plans.get 1 = some [(2, 0, 0), (5, 0, 0)] := by rfl
theorem Tryzplan294at3 : Tryzfi294.plans.get 3 = some [(2, 0, 0), (5, 0, 0)] := by rfl
theorem Tryzplan294at2 : Tryzfi294.plans.get 2 = some [(2, 0, 0), (5, 0, 0)] := by rfl
theorem Tryzplan297at3 : Tryzfi297.plans.get 3 = some [] := by rfl
theorem Tryzplan311at17 : Tryzfi311.plans.get 17 = some [(8, 0, 0), (12, 0, 0)] := by rfl
theorem Tryzplan317at0 : Tryzfi317.plans.get 0 = some [(0, 0, 3), (1, 0, 2), (5, 0, 2)] := by rfl
theorem Tryzplan319at15 : Tryzfi319.plans.get 15 = some [] := by rfl
theorem Tryzplan319at11 : Tryzfi319.plans.get 11 = some [] := by rfl
theorem Tryzplan330at1 : Tryzfi330.plans.get 1 = some [(3, 0, 0), (4, 0, 0)] := by rfl
theorem Tryzplan333at15 : Tryzfi333.plans.get 15 = some [] := by rfl
theorem Tryzplan333at11 : Tryzfi333.plans.get 11 = some [] := by rfl
theorem Tryzplan339at4 : Tryzfi339.plans.get 4 = some [(3, 0, 0), (7, 0, 0)] := by rfl
theorem Tryzplan342at17 : Tryzfi342.plans.get 17 = some [(0, 0, 1), (2, 0, 1), (4, 0, 1), (7, 0, 0)] := by rfl
theorem Tryzplan342at8 : Tryzfi342.plans.get 8 = some [(2, 0, 0), (5, 0, 1)] := by rfl
theorem Tryzplan353at1 : Tryzfi353.plans.get 1 = some [(4, 0, 0), (8, 0, 0)] := by rfl
theorem Tryzplan360at4 : Tryzfi360.plans.get 4 = some [(8, 0, 0), (13, 0, 0)] := by rfl
theorem Tryzplan360at6 : Tryzfi360.plans.get 6 = some [(9, 0, 0), (13, 0, 0)] := by rfl
theorem Tryzplan361at10 : Tryzfi361.plans.get 10 = some [(11, 0, 0), (15, 0, 0)] := by rfl
theorem Tryzplan362at10 : Tryzfi362.plans.get 10 = some [(11, 0, 0), (15, 0, 0)] := by rfl
theorem Tryzplan364at3 : Tryzfi364.plans.get 3 = some [(7, 0, 0), (11, 0, 0)] := by rfl
theorem Tryzplan365at23 : Tryzfi365.plans.get 23 = some [(9, 0, 0), (13, 0, 0)] := by rfl
theorem Tryzplan365at11 : Tryzfi365.plans.get 11 = some [(9, 0, 0), (13, 0, 0)] := by rfl
theorem Tryzplan365at5 : Tryzfi365.plans.get 5 = some [(8, 0, 0), (13, 0, 0)] := by rfl
theorem Tryzplan365at17 : Tryzfi365.plans.get 17 = some [(9, 0, 0), (13, 0, 0)] := by rfl
theorem Tryzplan365at16 : Tryzfi365.plans.get 16 = some [(4, 0, 0), (9, 0, 0)] := by rfl
theorem Tryzplan365at22 : Tryzfi365.plans.get 22 = some [(4, 0, 0), (9, 0, 0)] := by rfl
theorem Tryzplan366at1 : Tryzfi366.plans.get 1 = some [(7, 0, 0), (11, 0, 0)] := by rfl
theorem Tryzplan366at3 : Tryzfi366.plans.get 3 = some [(8, 0, 0), (12, 0, 0)] := by rfl
theorem Tryzplan366at5 : Tryzfi366.plans.get 5 = some [(8, 0, 0), (12, 0, 0)] := by rfl
theorem Tryzplan366at8 : Tryzfi366.plans.get 8 = some [(7, 0, 0), (11, 0, 0)] := by rfl
theorem Tryzplan367at1 : Tryzfi367.plans.get 1 = some [(7, 0, 0), (11, 0, 0)] := by rfl
theorem Tryzplan367at3 : Tryzfi367.plans.get 3 = some [(8, 0, 0), (12, 0, 0)] := by rfl
theorem Tryzplan367at15 : Tryzfi367.plans.get 15 = some [(8, 0, 0), (12, 0, 0)] := by rfl
theorem Tryzplan367at5 : Tryzfi367.plans.get 5 = some [(8, 0, 0), (12, 0, 0)] := by rfl
theorem Tryzplan367at13 : Tryzfi367.plans.get 13 = some [(8, 0, 0), (12, 0, 0)] := by rfl
theorem Tryzplan367at21 : Tryzfi367.plans.get 21 = some [(7, 0, 0), (11, 0, 0)] := by rfl
theorem Tryzplan367at8 : Tryzfi367.plans.get 8 = some [(7, 0, 0), (11, 0, 0)] := by rfl
theorem Tryzplan367at10 : Tryzfi367.plans.get 10 = some [(7, 0, 0), (11, 0, 0)] := by rfl
theorem Tryzplan367at18 : Tryzfi367.plans.get 18 = some [(7, 0, 0), (11, 0, 0)] := by rfl
theorem Tryzplan369at0 : Tryzfi369.plans.get 0 = some [(0, 0, 1)] := by rfl
theorem Tryzplan382at8 : Tryzfi382.plans.get 8 = some [(3, 0, 0), (5, 0, 0)] := by rfl
theorem Tryzplan385at14 : Tryzfi385.plans.get 14 = some [(0, 0, 0), (2, 0, 0), (5, 0, 1)] := by rfl
theorem Tryzplan387at4 : Tryzfi387.plans.get 4 = some [] := by rfl
theorem Tryzplan397at3 : Tryzfi397.plans.get 3 = some [(4, 0, 1), (7, 1, 1)] := by rfl
theorem Tryzplan410at7 : Tryzfi410.plans.get 7 = some [] := by rfl
theorem Tryzplan410at31 : Tryzfi410.plans.get 31 = some [] := by rfl
theorem Tryzplan410at6 : Tryzfi410.plans.get 6 = some [] := by rfl
theorem Tryzplan410at14 : Tryzfi410.plans.get 14 = some [] := by rfl
theorem Tryzplan412at3 : Tryzfi412.plans.get 3 = some [(11, 0, 0), (18, 0, 0)] := by rfl
theorem Tryzplan412at5 : Tryzfi412.plans.get 5 = some [(6, 0, 0), (12, 0, 0)] := by rfl
theorem Tryzplan412at6 : Tryzfi412.plans.get 6 = some [(13, 0, 0), (19, 0, 0)] := by rfl
theorem Tryzplan424at5 : Tryzfi424.plans.get 5 = some [] := by rfl
theorem Tryzplan425at1 : Tryzfi425.plans.get 1 = some [(1, 0, 1), (2, 0, 0)] := by rfl
theorem Tryzplan432at4 : Tryzfi432.plans.get 4 = some [(5, 0, 0)] := by rfl
theorem Tryzplan438at1 : Tryzfi438.plans.get 1 = some [(4, 0, 0), (8, 0, 0)] := by rfl
theorem Tryzplan440at3 : Tryzfi440.plans.get 3 = some [(7, 0, 0), (11, 0, 0)] := by rfl
theorem Tryzplan443at3 : Tryzfi443.plans.get 3 = some [(7, 0, 0), (11, 0, 0)] := by rfl
attribute [go_sem] TryztiAt1 TryztiAt2 TryztiAt3 TryztiAt4 TryztiAt5 TryztiAt6 TryztiAt7 TryztiAt8 TryztiAt9 TryztiAt10 TryztiAt11 TryztiAt12 TryztiAt13 TryztiAt14 TryztiAt15 TryztiAt16 TryztiAt17 TryztiAt18 TryztiAt19 TryztiAt20 TryztiAt21 TryztiAt22 TryztiAt23 TryztiAt24 TryztiAt25 TryztiAt27 TryztiAt28 TryztiAt29 TryztiAt30 TryztiAt31 TryztiAt32 TryztiAt33 TryztiAt34 TryztiAt35 TryztiAt36 TryztiAt37 TryztiAt38 TryztiAt40 TryztiAt41 TryztiAt42 TryztiAt43 TryztiAt44 TryztiAt45 TryztiAt46 TryztiAt47 TryztiAt48 TryztiAt49 TryztiAt50 TryztiAt51 TryztiAt53 TryztiAt54 TryztiAt55 TryztiAt56 TryztiAt57 TryztiAt58 TryztiAt59 TryztiAt60 TryztiAt62 TryztiAt63 TryztiAt64 TryztiAt65 TryztiAt66 TryztiAt67 TryztiAt68 TryztiAt69 TryztiAt70 TryztiAt71 TryztiAt72 TryztiAt73 TryztiAt74 TryztiAt75 TryztiAt76 TryztiAt77 TryztiAt78 TryztiAt79 TryztiAt80 TryztiAt81 TryztiAt82 TryztiAt83 TryztiAt84 TryztiAt85 TryztiAt86 TryztiAt88 TryztiAt89 TryztiAt90 TryztiAt91 TryztiAt92 TryztiAt93 TryztiAt94 TryztiAt95 TryztiAt96 TryztiAt97 TryztiAt98 TryztiAt99 TryztiAt100 TryztiAt101 TryztiAt102 TryztiAt103 TryztiAt105 TryztiAt106 TryztiAt107 TryztiAt108 TryztiAt109 TryztiAt110 TryztiAt111 TryztiAt112 TryztiAt113 TryztiAt114 TryztiAt115 TryztiAt116 TryztiAt117 TryztiAt118 TryztiAt119 TryztiAt120 TryztiAt121 TryztiAt122 TryztiAt123 TryztiAt124 TryztiAt125 TryztiAt126 TryztiAt127 TryztiAt129 TryztiAt130 TryztiAt132 TryztiAt133 TryztiAt134 TryztiAt135 TryztiAt136 TryztiAt137 TryztiAt138 TryztiAt139 TryztiAt140 TryztiAt141 TryztiAt142 TryztiAt143 TryztiAt144 TryztiAt145 TryztiAt146 TryztiAt147 TryztiAt148 TryztiAt150 TryztiAt151 TryztiAt152 TryztiAt153 TryztiAt154 TryztiAt155 TryztiAt157 TryztiAt159 TryztiAt160 TryztiAt161 TryztiAt162 TryztiAt163 TryztiAt164 TryztiAt165 TryztiAt166 TryztiAt167 TryztiAt168 TryztiAt169 TryztiAt170 TryztiAt171 TryztiAt172 TryztiAt173 TryztiAt174 TryztiAt176 TryztiAt177 TryztiAt178 TryztiAt179 TryztiAt180 TryztiAt181 TryztiAt182 TryztiAt183 TryztiAt185 TryztiAt186 TryztiAt187 TryztiAt188 TryztiAt189 TryztiAt190 TryztiAt191 TryztiAt192 TryztiAt193 TryztiAt194 TryztiAt195 TryztiAt196 TryztiAt197 TryztiAt199 TryztiAt201 TryztiAt202 TryztiAt203 TryztiAt204 TryztiAt205 TryztiAt206 TryztiAt207 TryztiAt208 TryztiAt209 TryztiAt210 TryztiAt211 TryztiAt212 TryztiAt213 TryztiAt214 TryztiAt215 TryztiAt216 TryztiAt217 TryztiAt218 TryztiAt219 TryztiAt220 TryztiAt221 TryztiAt222 TryztiAt223 TryztiAt224 TryztiAt225 TryztiAt226 TryztiAt227 TryztiAt228 TryztiAt230 TryztiAt231 TryztiAt232 TryztiAt233 TryztiAt234 TryztiAt235 TryztiAt237 TryztiAt238 TryztiAt239 TryztiAt240 TryztiAt241 TryztiAt242 TryztiAt243 TryztiAt244 TryztiAt245 TryztiAt246 TryztiAt247 TryztiAt249 TryztiAt251 TryztiAt252 TryztiAt253 TryztiAt254 TryztiAt256 TryztiAt257 TryztiAt258 TryztiAt259 TryztiAt260 TryztiAt261 TryztiAt263 TryztiAt265 TryztiAt266 TryztiAt267 TryztiAt269 TryztiAt270 TryztiAt271 TryztiAt272 TryztiAt273 TryztiAt274 TryztiAt275 TryztiAt276 TryztiAt277 TryztiAt278 TryztiAt280 TryztiAt281 TryztiAt282 TryztiAt283 TryztiAt284 TryztiAt285 TryztiAt286 TryztiAt287 TryztiAt289 TryztiAt290 TryztiAt291 TryztiAt292 TryztiAt293 TryztiAt294 TryztiAt295 TryztiAt296 TryztiAt298 TryztiAt300 TryztiAt301 TryztiAt302 TryztiAt303 TryztiAt304 TryztiAt305 TryztiAt306 TryztiAt307 TryztiAt308 TryztiAt309 TryztiAt310 TryztiAt311 TryztiAt312 TryztiAt314 TryztiAt315 TryztiAt317 TryztiAt319 TryztiAt320 TryztiAt321 TryztiAt322 TryztiAt323 TryztiAt324 TryztiAt325 TryztiAt326 TryztiAt327 TryztiAt328 TryztiAt329 TryztiAt330 TryztiAt331 TryztiAt332 TryztiAt333 TryztiAt334 TryztiAt335 TryztiAt336 TryztiAt338 TryztiAt339 TryztiAt340 TryztiAt341 TryztiAt342 TryztiAt343 TryztiAt344 TryztiAt345 TryztiAt347 TryztiAt348 TryztiAt349 TryztiAt350 TryztiAt351 TryztiAt352 TryztiAt353 TryztiAt354 TryztiAt355 TryztiAt357 TryztiAt358 TryztiAt359 TryztiAt360 TryztiAt361 TryztiAt362 TryztiAt363 TryztiAt364 TryztiAt366 TryztiAt367 TryztiAt368 TryztiAt369 TryztiAt370 TryztiAt371 TryztiAt372 TryztiAt373 TryztiAt374 TryztiAt375 TryztiAt376 TryztiAt377 TryztiAt379 TryztiAt380 TryztiAt381 TryztiAt382 TryztiAt383 TryztiAt384 TryztiAt385 TryztiAt386 TryztiAt387 TryztiAt388 TryztiAt389 TryztiAt390 TryztiAt391 TryztiAt392 TryztiAt393 TryztiAt394 TryztiAt395 TryztiAt396 TryztiAt397 TryztiAt399 TryztiAt400 TryztiAt401 TryztiAt403 TryztiAt404 TryztiAt405 TryztiAt406 TryztiAt407 TryztiAt408 TryztiAt409 TryztiAt411 TryztiAt412 TryztiAt413 TryztiAt414 TryztiAt415 TryztiAt416 TryztiAt417 TryztiAt418 TryztiAt419 TryztiAt420 TryztiAt421 TryztiAt422 TryztiAt423 TryztiAt424 TryztiAt425 TryztiAt426 TryztiAt428 TryztiAt429 TryztiAt430 TryztiAt431 TryztiAt432 TryztiAt433 TryztiAt434 TryztiAt435 TryztiAt436 TryztiAt437 TryztiAt438 TryztiAt439 TryztiAt441 TryztiAt442 TryztiAt444 TryztiAt445 TryztiAt447 TryztiAt448 TryztiAt449 TryztiAt450 TryztiAt451 TryztiAt452 TryztiAt454 TryztiAt455 TryztiAt456 TryztiAt457 TryztiAt458 TryztiAt459 TryztiAt460 TryztiAt461 TryztiAt462 TryztiAt463 TryztiAt464 TryztiAt465 TryztiAt466 TryztiAt467 TryztiAt468 TryztiAt469 TryztiAt471 TryztiAt472 TryztiAt473 TryztiAt474 TryztiAt475 TryztiAt476 TryztiAt477 TryztiAt478 TryztiAt479 TryztiAt480 TryztiAt481 TryztiAt482 TryztiAt483 TryztiAt484 TryztiAt485 TryztiAt486 TryztiAt487 TryztiAt488 TryztiAt489 TryztiAt491 TryztiAt492 TryztiAt493 TryztiAt494 TryztiAt495 TryztiAt496 TryztiAt497 TryztiAt499 TryztiAt500 TryztiAt501 TryztiAt502 TryztiAt503 TryztiAt504 TryztiAt505 TryztiAt506 TryztiAt507 TryztiAt508 TryztiAt509 TryztiAt510 TryztiAt511 TryztiAt512 TryztiAt513 TryztiAt514 TryztiAt515 TryzfiAt2 Tryzjoin2 Tryzres2 Tryznt2 Tryzbody2 TryzfiAt3 Tryzjoin3 Tryzres3 Tryznt3 Tryzbody3 TryzfiAt4 Tryzjoin4 Tryzres4 Tryznt4 Tryzbody4 TryzfiAt5 Tryzjoin5 Tryzres5 Tryznt5 Tryzbody5 TryzfiAt6 Tryzjoin6 Tryzres6 Tryznt6 Tryzbody6 TryzfiAt7 Tryzjoin7 Tryzres7 Tryznt7 Tryzbody7 TryzfiAt8 Tryzjoin8 Tryzres8 Tryznt8 Tryzbody8 TryzfiAt9 Tryzjoin9 Tryzres9 Tryznt9 Tryzbody9 TryzfiAt10 Tryzjoin10 Tryzres10 Tryznt10 Tryzbody10 TryzfiAt11 Tryzjoin11 Tryzres11 Tryznt11 Tryzbody11 TryzfiAt12 Tryzjoin12 Tryzres12 Tryznt12 Tryzbody12 TryzfiAt13 Tryzjoin13 Tryzres13 Tryznt13 Tryzbody13 TryzfiAt14 Tryzjoin14 Tryzres14 Tryznt14 Tryzbody14 TryzfiAt15 Tryzjoin15 Tryzres15 Tryznt15 Tryzbody15 TryzfiAt16 Tryzjoin16 Tryzres16 Tryznt16 Tryzbody16 TryzfiAt17 Tryzjoin17 Tryzres17 Tryznt17 Tryzbody17 TryzfiAt18 Tryzjoin18 Tryzres18 Tryznt18 Tryzbody18 TryzfiAt19 Tryzjoin19 Tryzres19 Tryznt19 Tryzbody19 TryzfiAt20 Tryzjoin20 Tryzres20 Tryznt20 Tryzbody20 TryzfiAt21 Tryzjoin21 Tryzres21 Tryznt21 Tryzbody21 TryzfiAt22 Tryzjoin22 Tryzres22 Tryznt22 Tryzbody22 TryzfiAt23 Tryzjoin23 Tryzres23 Tryznt23 Tryzbody23 TryzfiAt24 Tryzjoin24 Tryzres24 Tryznt24 Tryzbody24 TryzfiAt25 Tryzjoin25 Tryzres25 Tryznt25 Tryzbody25 TryzfiAt26 Tryzjoin26 Tryzres26 Tryznt26 Tryzbody26 TryzfiAt27 Tryzjoin27 Tryzres27 Tryznt27 Tryzbody27 TryzfiAt28 Tryzjoin28 Tryzres28 Tryznt28 Tryzbody28 TryzfiAt29 Tryzjoin29 Tryzres29 Tryznt29 Tryzbody29 TryzfiAt30 Tryzjoin30 Tryzres30 Tryznt30 Tryzbody30 TryzfiAt31 Tryzjoin31 Tryzres31 Tryznt31 Tryzbody31 TryzfiAt32 Tryzjoin32 Tryzres32 Tryznt32 Tryzbody32 TryzfiAt33 Tryzjoin33 Tryzres33 Tryznt33 Tryzbody33 TryzfiAt34 Tryzjoin34 Tryzres34 Tryznt34 Tryzbody34 TryzfiAt35 Tryzjoin35 Tryzres35 Tryznt35 Tryzbody35 TryzfiAt36 Tryzjoin36 Tryzres36 Tryznt36 Tryzbody36 TryzfiAt37 Tryzjoin37 Tryzres37 Tryznt37 Tryzbody37 TryzfiAt38 Tryzjoin38 Tryzres38 Tryznt38 Tryzbody38 TryzfiAt39 Tryzjoin39 Tryzres39 Tryznt39 Tryzbody39 TryzfiAt40 Tryzjoin40 Tryzres40 Tryznt40 Tryzbody40 TryzfiAt41 Tryzjoin41 Tryzres41 Tryznt41 Tryzbody41 TryzfiAt42 Tryzjoin42 Tryzres42 Tryznt42 Tryzbody42 TryzfiAt43 Tryzjoin43 Tryzres43 Tryznt43 Tryzbody43 TryzfiAt44 Tryzjoin44 Tryzres44 Tryznt44 Tryzbody44 TryzfiAt45 Tryzjoin45 Tryzres45 Tryznt45 Tryzbody45 TryzfiAt46 Tryzjoin46 Tryzres46 Tryznt46 Tryzbody46 TryzfiAt47 Tryzjoin47 Tryzres47 Tryznt47 Tryzbody47 TryzfiAt48 Tryzjoin48 Tryzres48 Tryznt48 Tryzbody48 TryzfiAt49 Tryzjoin49 Tryzres49 Tryznt49 Tryzbody49 TryzfiAt50 Tryzjoin50 Tryzres50 Tryznt50 Tryzbody50 TryzfiAt51 Tryzjoin51 Tryzres51 Tryznt51 Tryzbody51 TryzfiAt52 Tryzjoin52 Tryzres52 Tryznt52 Tryzbody52 TryzfiAt53 Tryzjoin53 Tryzres53 Tryznt53 Tryzbody53 TryzfiAt54 Tryzjoin54 Tryzres54 Tryznt54 Tryzbody54 TryzfiAt55 Tryzjoin55 Tryzres55 Tryznt55 Tryzbody55 TryzfiAt56 Tryzjoin56 Tryzres56 Tryznt56 Tryzbody56 TryzfiAt57 Tryzjoin57 Tryzres57 Tryznt57 Tryzbody57 TryzfiAt58 Tryzjoin58 Tryzres58 Tryznt58 Tryzbody58 TryzfiAt59 Tryzjoin59 Tryzres59 Tryznt59 Tryzbody59 TryzfiAt60 Tryzjoin60 Tryzres60 Tryznt60 Tryzbody60 TryzfiAt61 Tryzjoin61 Tryzres61 Tryznt61 Tryzbody61 TryzfiAt62 Tryzjoin62 Tryzres62 Tryznt62 Tryzbody62 TryzfiAt63 Tryzjoin63 Tryzres63 Tryznt63 Tryzbody63 TryzfiAt64 Tryzjoin64 Tryzres64 Tryznt64 Tryzbody64 TryzfiAt65 Tryzjoin65 Tryzres65 Tryznt65 Tryzbody65 TryzfiAt66 Tryzjoin66 Tryzres66 Tryznt66 Tryzbody66 TryzfiAt67 Tryzjoin67 Tryzres67 Tryznt67 Tryzbody67 TryzfiAt68 Tryzjoin68 Tryzres68 Tryznt68 Tryzbody68 TryzfiAt69 Tryzjoin69 Tryzres69 Tryznt69 Tryzbody69 TryzfiAt70 Tryzjoin70 Tryzres70 Tryznt70 Tryzbody70 TryzfiAt71 Tryzjoin71 Tryzres71 Tryznt71 Tryzbody71 TryzfiAt72 Tryzjoin72 Tryzres72 Tryznt72 Tryzbody72 TryzfiAt73 Tryzjoin73 Tryzres73 Tryznt73 Tryzbody73 TryzfiAt74 Tryzjoin74 Tryzres74 Tryznt74 Tryzbody74 TryzfiAt75 Tryzjoin75 Tryzres75 Tryznt75 Tryzbody75 TryzfiAt76 Tryzjoin76 Tryzres76 Tryznt76 Tryzbody76 TryzfiAt77 Tryzjoin77 Tryzres77 Tryznt77 Tryzbody77 TryzfiAt78 Tryzjoin78 Tryzres78 Tryznt78 Tryzbody78 TryzfiAt79 Tryzjoin79 Tryzres79 Tryznt79 Tryzbody79 TryzfiAt80 Tryzjoin80 Tryzres80 Tryznt80 Tryzbody80 TryzfiAt81 Tryzjoin81 Tryzres81 Tryznt81 Tryzbody81 TryzfiAt82 Tryzjoin82 Tryzres82 Tryznt82 Tryzbody82 TryzfiAt83 Tryzjoin83 Tryzres83 Tryznt83 Tryzbody83 TryzfiAt84 Tryzjoin84 Tryzres84 Tryznt84 Tryzbody84 TryzfiAt85 Tryzjoin85 Tryzres85 Tryznt85 Tryzbody85 TryzfiAt86 Tryzjoin86 Tryzres86 Tryznt86 Tryzbody86 TryzfiAt87 Tryzjoin87 Tryzres87 Tryznt87 Tryzbody87 TryzfiAt88 Tryzjoin88 Tryzres88 Tryznt88 Tryzbody88 TryzfiAt89 Tryzjoin89 Tryzres89 Tryznt89 Tryzbody89 TryzfiAt90 Tryzjoin90 Tryzres90 Tryznt90 Tryzbody90 TryzfiAt91 Tryzjoin91 Tryzres91 Tryznt91 Tryzbody91 TryzfiAt92 Tryzjoin92 Tryzres92 Tryznt92 Tryzbody92 TryzfiAt93 Tryzjoin93 Tryzres93 Tryznt93 Tryzbody93 TryzfiAt94 Tryzjoin94 Tryzres94 Tryznt94 Tryzbody94 TryzfiAt95 Tryzjoin95 Tryzres95 Tryznt95 Tryzbody95 TryzfiAt96 Tryzjoin96 Tryzres96 Tryznt96 Tryzbody96 TryzfiAt97 Tryzjoin97 Tryzres97 Tryznt97 Tryzbody97 TryzfiAt98 Tryzjoin98 Tryzres98 Tryznt98 Tryzbody98 TryzfiAt99 Tryzjoin99 Tryzres99 Tryznt99 Tryzbody99 TryzfiAt100 Tryzjoin100 Tryzres100 Tryznt100 Tryzbody100 TryzfiAt101 Tryzjoin101 Tryzres101 Tryznt101 Tryzbody101 TryzfiAt102 Tryzjoin102 Tryzres102 Tryznt102 Tryzbody102 TryzfiAt103 Tryzjoin103 Tryzres103 Tryznt103 Tryzbody103 TryzfiAt104 Tryzjoin104 Tryzres104 Tryznt104 Tryzbody104 TryzfiAt105 Tryzjoin105 Tryzres105 Tryznt105 Tryzbody105 TryzfiAt106 Tryzjoin106 Tryzres106 Tryznt106 Tryzbody106 TryzfiAt107 Tryzjoin107 Tryzres107 Tryznt107 Tryzbody107 TryzfiAt108 Tryzjoin108 Tryzres108 Tryznt108 Tryzbody108 TryzfiAt109 Tryzjoin109 Tryzres109 Tryznt109 Tryzbody109 TryzfiAt110 Tryzjoin110 Tryzres110 Tryznt110 Tryzbody110 TryzfiAt111 Tryzjoin111 Tryzres111 Tryznt111 Tryzbody111 TryzfiAt112 Tryzjoin112 Tryzres112 Tryznt112 Tryzbody112 TryzfiAt113 Tryzjoin113 Tryzres113 Tryznt113 Tryzbody113 TryzfiAt114 Tryzjoin114 Tryzres114 Tryznt114 Tryzbody114 TryzfiAt115 Tryzjoin115 Tryzres115 Tryznt115 Tryzbody115 TryzfiAt116 Tryzjoin116 Tryzres116 Tryznt116 Tryzbody116 TryzfiAt117 Tryzjoin117 Tryzres117 Tryznt117 Tryzbody117 TryzfiAt118 Tryzjoin118 Tryzres118 Tryznt118 Tryzbody118 TryzfiAt119 Tryzjoin119 Tryzres119 Tryznt119 Tryzbody119 TryzfiAt120 Tryzjoin120 Tryzres120 Tryznt120 Tryzbody120 TryzfiAt121 Tryzjoin121 Tryzres121 Tryznt121 Tryzbody121 TryzfiAt122 Tryzjoin122 Tryzres122 Tryznt122 Tryzbody122 TryzfiAt123 Tryzjoin123 Tryzres123 Tryznt123 Tryzbody123 TryzfiAt124 Tryzjoin124 Tryzres124 Tryznt124 Tryzbody124 TryzfiAt125 Tryzjoin125 Tryzres125 Tryznt125 Tryzbody125 TryzfiAt126 Tryzjoin126 Tryzres126 Tryznt126 Tryzbody126 TryzfiAt127 Tryzjoin127 Tryzres127 Tryznt127 Tryzbody127 TryzfiAt128 Tryzjoin128 Tryzres128 Tryznt128 Tryzbody128 TryzfiAt129 Tryzjoin129 Tryzres129 Tryznt129 Tryzbody129 TryzfiAt130 Tryzjoin130 Tryzres130 Tryznt130 Tryzbody130 TryzfiAt131 Tryzjoin131 Tryzres131 Tryznt131 Tryzbody131 TryzfiAt132 Tryzjoin132 Tryzres132 Tryznt132 Tryzbody132 TryzfiAt133 Tryzjoin133 Tryzres133 Tryznt133 Tryzbody133 TryzfiAt134 Tryzjoin134 Tryzres134 Tryznt134 Tryzbody134 TryzfiAt135 Tryzjoin135 Tryzres135 Tryznt135 Tryzbody135 TryzfiAt136 Tryzjoin136 Tryzres136 Tryznt136 Tryzbody136 TryzfiAt137 Tryzjoin137 Tryzres137 Tryznt137 Tryzbody137 TryzfiAt138 Tryzjoin138 Tryzres138 Tryznt138 Tryzbody138 TryzfiAt139 Tryzjoin139 Tryzres139 Tryznt139 Tryzbody139 TryzfiAt140 Tryzjoin140 Tryzres140 Tryznt140 Tryzbody140 TryzfiAt141 Tryzjoin141 Tryzres141 Tryznt141 Tryzbody141 TryzfiAt142 Tryzjoin142 Tryzres142 Tryznt142 Tryzbody142 TryzfiAt143 Tryzjoin143 Tryzres143 Tryznt143 Tryzbody143 TryzfiAt144 Tryzjoin144 Tryzres144 Tryznt144 Tryzbody144 TryzfiAt145 Tryzjoin145 Tryzres145 Tryznt145 Tryzbody145 TryzfiAt146 Tryzjoin146 Tryzres146 Tryznt146 Tryzbody146 TryzfiAt147 Tryzjoin147 Tryzres147 Tryznt147 Tryzbody147 TryzfiAt148 Tryzjoin148 Tryzres148 Tryznt148 Tryzbody148 TryzfiAt149 Tryzjoin149 Tryzres149 Tryznt149 Tryzbody149 TryzfiAt150 Tryzjoin150 Tryzres150 Tryznt150 Tryzbody150 TryzfiAt151 Tryzjoin151 Tryzres151 Tryznt151 Tryzbody151 TryzfiAt152 Tryzjoin152 Tryzres152 Tryznt152 Tryzbody152 TryzfiAt153 Tryzjoin153 Tryzres153 Tryznt153 Tryzbody153 TryzfiAt154 Tryzjoin154 Tryzres154 Tryznt154 Tryzbody154 TryzfiAt155 Tryzjoin155 Tryzres155 Tryznt155 Tryzbody155 TryzfiAt156 Tryzjoin156 Tryzres156 Tryznt156 Tryzbody156 TryzfiAt157 Tryzjoin157 Tryzres157 Tryznt157 Tryzbody157 TryzfiAt158 Tryzjoin158 Tryzres158 Tryznt158 Tryzbody158 TryzfiAt159 Tryzjoin159 Tryzres159 Tryznt159 Tryzbody159 TryzfiAt160 Tryzjoin160 Tryzres160 Tryznt160 Tryzbody160 TryzfiAt161 Tryzjoin161 Tryzres161 Tryznt161 Tryzbody161 TryzfiAt162 Tryzjoin162 Tryzres162 Tryznt162 Tryzbody162 TryzfiAt163 Tryzjoin163 Tryzres163 Tryznt163 Tryzbody163 TryzfiAt164 Tryzjoin164 Tryzres164 Tryznt164 Tryzbody164 TryzfiAt165 Tryzjoin165 Tryzres165 Tryznt165 Tryzbody165 TryzfiAt166 Tryzjoin166 Tryzres166 Tryznt166 Tryzbody166 TryzfiAt167 Tryzjoin167 Tryzres167 Tryznt167 Tryzbody167 TryzfiAt168 Tryzjoin168 Tryzres168 Tryznt168 Tryzbody168 TryzfiAt169 Tryzjoin169 Tryzres169 Tryznt169 Tryzbody169 TryzfiAt170 Tryzjoin170 Tryzres170 Tryznt170 Tryzbody170 TryzfiAt171 Tryzjoin171 Tryzres171 Tryznt171 Tryzbody171 TryzfiAt172 Tryzjoin172 Tryzres172 Tryznt172 Tryzbody172 TryzfiAt173 Tryzjoin173 Tryzres173 Tryznt173 Tryzbody173 TryzfiAt174 Tryzjoin174 Tryzres174 Tryznt174 Tryzbody174 TryzfiAt175 Tryzjoin175 Tryzres175 Tryznt175 Tryzbody175 TryzfiAt176 Tryzjoin176 Tryzres176 Tryznt176 Tryzbody176 TryzfiAt177 Tryzjoin177 Tryzres177 Tryznt177 Tryzbody177 TryzfiAt178 Tryzjoin178 Tryzres178 Tryznt178 Tryzbody178 TryzfiAt179 Tryzjoin179 Tryzres179 Tryznt179 Tryzbody179 TryzfiAt180 Tryzjoin180 Tryzres180 Tryznt180 Tryzbody180 TryzfiAt181 Tryzjoin181 Tryzres181 Tryznt181 Tryzbody181 TryzfiAt182 Tryzjoin182 Tryzres182 Tryznt182 Tryzbody182 TryzfiAt183 Tryzjoin183 Tryzres183 Tryznt183 Tryzbody183 TryzfiAt184 Tryzjoin184 Tryzres184 Tryznt184 Tryzbody184 TryzfiAt185 Tryzjoin185 Tryzres185 Tryznt185 Tryzbody185 TryzfiAt186 Tryzjoin186 Tryzres186 Tryznt186 Tryzbody186 TryzfiAt187 Tryzjoin187 Tryzres187 Tryznt187 Tryzbody187 TryzfiAt188 Tryzjoin188 Tryzres188 Tryznt188 Tryzbody188 TryzfiAt189 Tryzjoin189 Tryzres189 Tryznt189 Tryzbody189 TryzfiAt190 Tryzjoin190 Tryzres190 Tryznt190 Tryzbody190 TryzfiAt191 Tryzjoin191 Tryzres191 Tryznt191 Tryzbody191 TryzfiAt192 Tryzjoin192 Tryzres192 Tryznt192 Tryzbody192 TryzfiAt193 Tryzjoin193 Tryzres193 Tryznt193 Tryzbody193 TryzfiAt194 Tryzjoin194 Tryzres194 Tryznt194 Tryzbody194 TryzfiAt195 Tryzjoin195 Tryzres195 Tryznt195 Tryzbody195 TryzfiAt196 Tryzjoin196 Tryzres196 Tryznt196 Tryzbody196 TryzfiAt197 Tryzjoin197 Tryzres197 Tryznt197 Tryzbody197 TryzfiAt198 Tryzjoin198 Tryzres198 Tryznt198 Tryzbody198 TryzfiAt199 Tryzjoin199 Tryzres199 Tryznt199 Tryzbody199 TryzfiAt200 Tryzjoin200 Tryzres200 Tryznt200 Tryzbody200 TryzfiAt201 Tryzjoin201 Tryzres201 Tryznt201 Tryzbody201 TryzfiAt202 Tryzjoin202 Tryzres202 Tryznt202 Tryzbody202 TryzfiAt203 Tryzjoin203 Tryzres203 Tryznt203 Tryzbody203 TryzfiAt204 Tryzjoin204 Tryzres204 Tryznt204 Tryzbody204 TryzfiAt205 Tryzjoin205 Tryzres205 Tryznt205 Tryzbody205 TryzfiAt206 Tryzjoin206 Tryzres206 Tryznt206 Tryzbody206 TryzfiAt207 Tryzjoin207 Tryzres207 Tryznt207 Tryzbody207 TryzfiAt208 Tryzjoin208 Tryzres208 Tryznt208 Tryzbody208 TryzfiAt209 Tryzjoin209 Tryzres209 Tryznt209 Tryzbody209 TryzfiAt210 Tryzjoin210 Tryzres210 Tryznt210 Tryzbody210 TryzfiAt211 Tryzjoin211 Tryzres211 Tryznt211 Tryzbody211 TryzfiAt212 Tryzjoin212 Tryzres212 Tryznt212 Tryzbody212 TryzfiAt213 Tryzjoin213 Tryzres213 Tryznt213 Tryzbody213 TryzfiAt214 Tryzjoin214 Tryzres214 Tryznt214 Tryzbody214 TryzfiAt215 Tryzjoin215 Tryzres215 Tryznt215 Tryzbody215 TryzfiAt216 Tryzjoin216 Tryzres216 Tryznt216 Tryzbody216 TryzfiAt217 Tryzjoin217 Tryzres217 Tryznt217 Tryzbody217 TryzfiAt218 Tryzjoin218 Tryzres218 Tryznt218 Tryzbody218 TryzfiAt219 Tryzjoin219 Tryzres219 Tryznt219 Tryzbody219 TryzfiAt220 Tryzjoin220 Tryzres220 Tryznt220 Tryzbody220 TryzfiAt221 Tryzjoin221 Tryzres221 Tryznt221 Tryzbody221 TryzfiAt222 Tryzjoin222 Tryzres222 Tryznt222 Tryzbody222 TryzfiAt223 Tryzjoin223 Tryzres223 Tryznt223 Tryzbody223 TryzfiAt224 Tryzjoin224 Tryzres224 Tryznt224 Tryzbody224 TryzfiAt225 Tryzjoin225 Tryzres225 Tryznt225 Tryzbody225 TryzfiAt226 Tryzjoin226 Tryzres226 Tryznt226 Tryzbody226 TryzfiAt227 Tryzjoin227 Tryzres227 Tryznt227 Tryzbody227 TryzfiAt228 Tryzjoin228 Tryzres228 Tryznt228 Tryzbody228 TryzfiAt229 Tryzjoin229 Tryzres229 Tryznt229 Tryzbody229 TryzfiAt230 Tryzjoin230 Tryzres230 Tryznt230 Tryzbody230 TryzfiAt231 Tryzjoin231 Tryzres231 Tryznt231 Tryzbody231 TryzfiAt232 Tryzjoin232 Tryzres232 Tryznt232 Tryzbody232 TryzfiAt233 Tryzjoin233 Tryzres233 Tryznt233 Tryzbody233 TryzfiAt234 Tryzjoin234 Tryzres234 Tryznt234 Tryzbody234 TryzfiAt235 Tryzjoin235 Tryzres235 Tryznt235 Tryzbody235 TryzfiAt236 Tryzjoin236 Tryzres236 Tryznt236 Tryzbody236 TryzfiAt237 Tryzjoin237 Tryzres237 Tryznt237 Tryzbody237 TryzfiAt238 Tryzjoin238 Tryzres238 Tryznt238 Tryzbody238 TryzfiAt239 Tryzjoin239 Tryzres239 Tryznt239 Tryzbody239 TryzfiAt240 Tryzjoin240 Tryzres240 Tryznt240 Tryzbody240 TryzfiAt241 Tryzjoin241 Tryzres241 Tryznt241 Tryzbody241 TryzfiAt242 Tryzjoin242 Tryzres242 Tryznt242 Tryzbody242 TryzfiAt243 Tryzjoin243 Tryzres243 Tryznt243 Tryzbody243 TryzfiAt244 Tryzjoin244 Tryzres244 Tryznt244 Tryzbody244 TryzfiAt245 Tryzjoin245 Tryzres245 Tryznt245 Tryzbody245 TryzfiAt246 Tryzjoin246 Tryzres246 Tryznt246 Tryzbody246 TryzfiAt247 Tryzjoin247 Tryzres247 Tryznt247 Tryzbody247 TryzfiAt248 Tryzjoin248 Tryzres248 Tryznt248 Tryzbody248 TryzfiAt249 Tryzjoin249 Tryzres249 Tryznt249 Tryzbody249 TryzfiAt250 Tryzjoin250 Tryzres250 Tryznt250 Tryzbody250 TryzfiAt251 Tryzjoin251 Tryzres251 Tryznt251 Tryzbody251 TryzfiAt252 Tryzjoin252 Tryzres252 Tryznt252 Tryzbody252 TryzfiAt253 Tryzjoin253 Tryzres253 Tryznt253 Tryzbody253 TryzfiAt254 Tryzjoin254 Tryzres254 Tryznt254 Tryzbody254 TryzfiAt255 Tryzjoin255 Tryzres255 Tryznt255 Tryzbody255 TryzfiAt256 Tryzjoin256 Tryzres256 Tryznt256 Tryzbody256 TryzfiAt257 Tryzjoin257 Tryzres257 Tryznt257 Tryzbody257 TryzfiAt258 Tryzjoin258 Tryzres258 Tryznt258 Tryzbody258 TryzfiAt259 Tryzjoin259 Tryzres259 Tryznt259 Tryzbody259 TryzfiAt260 Tryzjoin260 Tryzres260 Tryznt260 Tryzbody260 TryzfiAt261 Tryzjoin261 Tryzres261 Tryznt261 Tryzbody261 TryzfiAt262 Tryzjoin262 Tryzres262 Tryznt262 Tryzbody262 TryzfiAt263 Tryzjoin263 Tryzres263 Tryznt263 Tryzbody263 TryzfiAt264 Tryzjoin264 Tryzres264 Tryznt264 Tryzbody264 TryzfiAt265 Tryzjoin265 Tryzres265 Tryznt265 Tryzbody265 TryzfiAt266 Tryzjoin266 Tryzres266 Tryznt266 Tryzbody266 TryzfiAt267 Tryzjoin267 Tryzres267 Tryznt267 Tryzbody267 TryzfiAt268 Tryzjoin268 Tryzres268 Tryznt268 Tryzbody268 TryzfiAt269 Tryzjoin269 Tryzres269 Tryznt269 Tryzbody269 TryzfiAt270 Tryzjoin270 Tryzres270 Tryznt270 Tryzbody270 TryzfiAt271 Tryzjoin271 Tryzres271 Tryznt271 Tryzbody271 TryzfiAt272 Tryzjoin272 Tryzres272 Tryznt272 Tryzbody272 TryzfiAt273 Tryzjoin273 Tryzres273 Tryznt273 Tryzbody273 TryzfiAt274 Tryzjoin274 Tryzres274 Tryznt274 Tryzbody274 TryzfiAt275 Tryzjoin275 Tryzres275 Tryznt275 Tryzbody275 TryzfiAt276 Tryzjoin276 Tryzres276 Tryznt276 Tryzbody276 TryzfiAt277 Tryzjoin277 Tryzres277 Tryznt277 Tryzbody277 TryzfiAt278 Tryzjoin278 Tryzres278 Tryznt278 Tryzbody278 TryzfiAt279 Tryzjoin279 Tryzres279 Tryznt279 Tryzbody279 TryzfiAt280 Tryzjoin280 Tryzres280 Tryznt280 Tryzbody280 TryzfiAt281 Tryzjoin281 Tryzres281 Tryznt281 Tryzbody281 TryzfiAt282 Tryzjoin282 Tryzres282 Tryznt282 Tryzbody282 TryzfiAt283 Tryzjoin283 Tryzres283 Tryznt283 Tryzbody283 TryzfiAt284 Tryzjoin284 Tryzres284 Tryznt284 Tryzbody284 TryzfiAt285 Tryzjoin285 Tryzres285 Tryznt285 Tryzbody285 TryzfiAt286 Tryzjoin286 Tryzres286 Tryznt286 Tryzbody286 TryzfiAt287 Tryzjoin287 Tryzres287 Tryznt287 Tryzbody287 TryzfiAt288 Tryzjoin288 Tryzres288 Tryznt288 Tryzbody288 TryzfiAt289 Tryzjoin289 Tryzres289 Tryznt289 Tryzbody289 TryzfiAt290 Tryzjoin290 Tryzres290 Tryznt290 Tryzbody290 TryzfiAt291 Tryzjoin291 Tryzres291 Tryznt291 Tryzbody291 TryzfiAt292 Tryzjoin292 Tryzres292 Tryznt292 Tryzbody292 TryzfiAt293 Tryzjoin293 Tryzres293 Tryznt293 Tryzbody293 TryzfiAt294 Tryzjoin294 Tryzres294 Tryznt294 Tryzbody294 TryzfiAt295 Tryzjoin295 Tryzres295 Tryznt295 Tryzbody295 TryzfiAt296 Tryzjoin296 Tryzres296 Tryznt296 Tryzbody296 TryzfiAt297 Tryzjoin297 Tryzres297 Tryznt297 Tryzbody297 TryzfiAt298 Tryzjoin298 Tryzres298 Tryznt298 Tryzbody298 TryzfiAt299 Tryzjoin299 Tryzres299 Tryznt299 Tryzbody299 TryzfiAt300 Tryzjoin300 Tryzres300 Tryznt300 Tryzbody300 TryzfiAt301 Tryzjoin301 Tryzres301 Tryznt301 Tryzbody301 TryzfiAt302 Tryzjoin302 Tryzres302 Tryznt302 Tryzbody302 TryzfiAt303 Tryzjoin303 Tryzres303 Tryznt303 Tryzbody303 TryzfiAt304 Tryzjoin304 Tryzres304 Tryznt304 Tryzbody304 TryzfiAt305 Tryzjoin305 Tryzres305 Tryznt305 Tryzbody305 TryzfiAt306 Tryzjoin306 Tryzres306 Tryznt306 Tryzbody306 TryzfiAt307 Tryzjoin307 Tryzres307 Tryznt307 Tryzbody307 TryzfiAt310 Tryzjoin310 Tryzres310 Tryznt310 Tryzbody310 TryzfiAt311 Tryzjoin311 Tryzres311 Tryznt311 Tryzbody311 TryzfiAt312 Tryzjoin312 Tryzres312 Tryznt312 Tryzbody312 TryzfiAt313 Tryzjoin313 Tryzres313 Tryznt313 Tryzbody313 TryzfiAt314 Tryzjoin314 Tryzres314 Tryznt314 Tryzbody314 TryzfiAt315 Tryzjoin315 Tryzres315 Tryznt315 Tryzbody315 TryzfiAt316 Tryzjoin316 Tryzres316 Tryznt316 Tryzbody316 TryzfiAt317 Tryzjoin317 Tryzres317 Tryznt317 Tryzbody317 TryzfiAt318 Tryzjoin318 Tryzres318 Tryznt318 Tryzbody318 TryzfiAt319 Tryzjoin319 Tryzres319 Tryznt319 Tryzbody319 TryzfiAt320 Tryzjoin320 Tryzres320 Tryznt320 Tryzbody320 TryzfiAt321 Tryzjoin321 Tryzres321 Tryznt321 Tryzbody321 TryzfiAt322 Tryzjoin322 Tryzres322 Tryznt322 Tryzbody322 TryzfiAt323 Tryzjoin323 Tryzres323 Tryznt323 Tryzbody323 TryzfiAt324 Tryzjoin324 Tryzres324 Tryznt324 Tryzbody324 TryzfiAt325 Tryzjoin325 Tryzres325 Tryznt325 Tryzbody325 TryzfiAt326 Tryzjoin326 Tryzres326 Tryznt326 Tryzbody326 TryzfiAt327 Tryzjoin327 Tryzres327 Tryznt327 Tryzbody327 TryzfiAt328 Tryzjoin328 Tryzres328 Tryznt328 Tryzbody328 TryzfiAt329 Tryzjoin329 Tryzres329 Tryznt329 Tryzbody329 TryzfiAt330 Tryzjoin330 Tryzres330 Tryznt330 Tryzbody330 TryzfiAt331 Tryzjoin331 Tryzres331 Tryznt331 Tryzbody331 TryzfiAt332 Tryzjoin332 Tryzres332 Tryznt332 Tryzbody332 TryzfiAt333 Tryzjoin333 Tryzres333 Tryznt333 Tryzbody333 TryzfiAt334 Tryzjoin334 Tryzres334 Tryznt334 Tryzbody334 TryzfiAt335 Tryzjoin335 Tryzres335 Tryznt335 Tryzbody335 TryzfiAt336 Tryzjoin336 Tryzres336 Tryznt336 Tryzbody336 TryzfiAt337 Tryzjoin337 Tryzres337 Tryznt337 Tryzbody337 TryzfiAt338 Tryzjoin338 Tryzres338 Tryznt338 Tryzbody338 TryzfiAt339 Tryzjoin339 Tryzres339 Tryznt339 Tryzbody339 TryzfiAt340 Tryzjoin340 Tryzres340 Tryznt340 Tryzbody340 TryzfiAt341 Tryzjoin341 Tryzres341 Tryznt341 Tryzbody341 TryzfiAt342 Tryzjoin342 Tryzres342 Tryznt342 Tryzbody342 TryzfiAt343 Tryzjoin343 Tryzres343 Tryznt343 Tryzbody343 TryzfiAt344 Tryzjoin344 Tryzres344 Tryznt344 Tryzbody344 TryzfiAt345 Tryzjoin345 Tryzres345 Tryznt345 Tryzbody345 TryzfiAt346 Tryzjoin346 Tryzres346 Tryznt346 Tryzbody346 TryzfiAt347 Tryzjoin347 Tryzres347 Tryznt347 Tryzbody347 TryzfiAt348 Tryzjoin348 Tryzres348 Tryznt348 Tryzbody348 TryzfiAt349 Tryzjoin349 Tryzres349 Tryznt349 Tryzbody349 TryzfiAt350 Tryzjoin350 Tryzres350 Tryznt350 Tryzbody350 TryzfiAt351 Tryzjoin351 Tryzres351 Tryznt351 Tryzbody351 TryzfiAt352 Tryzjoin352 Tryzres352 Tryznt352 Tryzbody352 TryzfiAt353 Tryzjoin353 Tryzres353 Tryznt353 Tryzbody353 TryzfiAt354 Tryzjoin354 Tryzres354 Tryznt354 Tryzbody354 TryzfiAt355 Tryzjoin355 Tryzres355 Tryznt355 Tryzbody355 TryzfiAt356 Tryzjoin356 Tryzres356 Tryznt356 Tryzbody356 TryzfiAt357 Tryzjoin357 Tryzres357 Tryznt357 Tryzbody357 TryzfiAt358 Tryzjoin358 Tryzres358 Tryznt358 Tryzbody358 TryzfiAt359 Tryzjoin359 Tryzres359 Tryznt359 Tryzbody359 TryzfiAt360 Tryzjoin360 Tryzres360 Tryznt360 Tryzbody360 TryzfiAt361 Tryzjoin361 Tryzres361 Tryznt361 Tryzbody361 TryzfiAt362 Tryzjoin362 Tryzres362 Tryznt362 Tryzbody362 TryzfiAt363 Tryzjoin363 Tryzres363 Tryznt363 Tryzbody363 TryzfiAt364 Tryzjoin364 Tryzres364 Tryznt364 Tryzbody364 TryzfiAt365 Tryzjoin365 Tryzres365 Tryznt365 Tryzbody365 TryzfiAt366 Tryzjoin366 Tryzres366 Tryznt366 Tryzbody366 TryzfiAt367 Tryzjoin367 Tryzres367 Tryznt367 Tryzbody367 TryzfiAt368 Tryzjoin368 Tryzres368 Tryznt368 Tryzbody368 TryzfiAt369 Tryzjoin369 Tryzres369 Tryznt369 Tryzbody369 TryzfiAt371 Tryzjoin371 Tryzres371 Tryznt371 Tryzbody371 TryzfiAt372 Tryzjoin372 Tryzres372 Tryznt372 Tryzbody372 TryzfiAt373 Tryzjoin373 Tryzres373 Tryznt373 Tryzbody373 TryzfiAt374 Tryzjoin374 Tryzres374 Tryznt374 Tryzbody374 TryzfiAt375 Tryzjoin375 Tryzres375 Tryznt375 Tryzbody375 TryzfiAt376 Tryzjoin376 Tryzres376 Tryznt376 Tryzbody376 TryzfiAt377 Tryzjoin377 Tryzres377 Tryznt377 Tryzbody377 TryzfiAt378 Tryzjoin378 Tryzres378 Tryznt378 Tryzbody378 TryzfiAt379 Tryzjoin379 Tryzres379 Tryznt379 Tryzbody379 TryzfiAt380 Tryzjoin380 Tryzres380 Tryznt380 Tryzbody380 TryzfiAt381 Tryzjoin381 Tryzres381 Tryznt381 Tryzbody381 TryzfiAt382 Tryzjoin382 Tryzres382 Tryznt382 Tryzbody382 TryzfiAt384 Tryzjoin384 Tryzres384 Tryznt384 Tryzbody384 TryzfiAt385 Tryzjoin385 Tryzres385 Tryznt385 Tryzbody385 TryzfiAt386 Tryzjoin386 Tryzres386 Tryznt386 Tryzbody386 TryzfiAt387 Tryzjoin387 Tryzres387 Tryznt387 Tryzbody387 TryzfiAt388 Tryzjoin388 Tryzres388 Tryznt388 Tryzbody388 TryzfiAt389 Tryzjoin389 Tryzres389 Tryznt389 Tryzbody389 TryzfiAt390 Tryzjoin390 Tryzres390 Tryznt390 Tryzbody390 TryzfiAt391 Tryzjoin391 Tryzres391 Tryznt391 Tryzbody391 TryzfiAt392 Tryzjoin392 Tryzres392 Tryznt392 Tryzbody392 TryzfiAt393 Tryzjoin393 Tryzres393 Tryznt393 Tryzbody393 TryzfiAt394 Tryzjoin394 Tryzres394 Tryznt394 Tryzbody394 TryzfiAt395 Tryzjoin395 Tryzres395 Tryznt395 Tryzbody395 TryzfiAt396 Tryzjoin396 Tryzres396 Tryznt396 Tryzbody396 TryzfiAt397 Tryzjoin397 Tryzres397 Tryznt397 Tryzbody397 TryzfiAt398 Tryzjoin398 Tryzres398 Tryznt398 Tryzbody398 TryzfiAt399 Tryzjoin399 Tryzres399 Tryznt399 Tryzbody399 TryzfiAt400 Tryzjoin400 Tryzres400 Tryznt400 Tryzbody400 TryzfiAt401 Tryzjoin401 Tryzres401 Tryznt401 Tryzbody401 TryzfiAt402 Tryzjoin402 Tryzres402 Tryznt402 Tryzbody402 TryzfiAt403 Tryzjoin403 Tryzres403 Tryznt403 Tryzbody403 TryzfiAt405 Tryzjoin405 Tryzres405 Tryznt405 Tryzbody405 TryzfiAt407 Tryzjoin407 Tryzres407 Tryznt407 Tryzbody407 TryzfiAt408 Tryzjoin408 Tryzres408 Tryznt408 Tryzbody408 TryzfiAt409 Tryzjoin409 Tryzres409 Tryznt409 Tryzbody409 TryzfiAt410 Tryzjoin410 Tryzres410 Tryznt410 Tryzbody410 TryzfiAt411 Tryzjoin411 Tryzres411 Tryznt411 Tryzbody411 TryzfiAt412 Tryzjoin412 Tryzres412 Tryznt412 Tryzbody412 TryzfiAt413 Tryzjoin413 Tryzres413 Tryznt413 Tryzbody413 TryzfiAt414 Tryzjoin414 Tryzres414 Tryznt414 Tryzbody414 TryzfiAt415 Tryzjoin415 Tryzres415 Tryznt415 Tryzbody415 TryzfiAt416 Tryzjoin416 Tryzres416 Tryznt416 Tryzbody416 TryzfiAt417 Tryzjoin417 Tryzres417 Tryznt417 Tryzbody417 TryzfiAt418 Tryzjoin418 Tryzres418 Tryznt418 Tryzbody418 TryzfiAt419 Tryzjoin419 Tryzres419 Tryznt419 Tryzbody419 TryzfiAt420 Tryzjoin420 Tryzres420 Tryznt420 Tryzbody420 TryzfiAt421 Tryzjoin421 Tryzres421 Tryznt421 Tryzbody421 TryzfiAt422 Tryzjoin422 Tryzres422 Tryznt422 Tryzbody422 TryzfiAt423 Tryzjoin423 Tryzres423 Tryznt423 Tryzbody423 TryzfiAt424 Tryzjoin424 Tryzres424 Tryznt424 Tryzbody424 TryzfiAt425 Tryzjoin425 Tryzres425 Tryznt425 Tryzbody425 TryzfiAt426 Tryzjoin426 Tryzres426 Tryznt426 Tryzbody426 TryzfiAt427 Tryzjoin427 Tryzres427 Tryznt427 Tryzbody427 TryzfiAt428 Tryzjoin428 Tryzres428 Tryznt428 Tryzbody428 TryzfiAt429 Tryzjoin429 Tryzres429 Tryznt429 Tryzbody429 TryzfiAt430 Tryzjoin430 Tryzres430 Tryznt430 Tryzbody430 TryzfiAt431 Tryzjoin431 Tryzres431 Tryznt431 Tryzbody431 TryzfiAt432 Tryzjoin432 Tryzres432 Tryznt432 Tryzbody432 TryzfiAt433 Tryzjoin433 Tryzres433 Tryznt433 Tryzbody433 TryzfiAt435 Tryzjoin435 Tryzres435 Tryznt435 Tryzbody435 TryzfiAt436 Tryzjoin436 Tryzres436 Tryznt436 Tryzbody436 TryzfiAt437 Tryzjoin437 Tryzres437 Tryznt437 Tryzbody437 TryzfiAt438 Tryzjoin438 Tryzres438 Tryznt438 Tryzbody438 TryzfiAt439 Tryzjoin439 Tryzres439 Tryznt439 Tryzbody439 TryzfiAt440 Tryzjoin440 Tryzres440 Tryznt440 Tryzbody440 TryzfiAt441 Tryzjoin441 Tryzres441 Tryznt441 Tryzbody441 TryzfiAt442 Tryzjoin442 Tryzres442 Tryznt442 Tryzbody442 TryzfiAt443 Tryzjoin443 Tryzres443 Tryznt443 Tryzbody443 TryzfiAt444 Tryzjoin444 Tryzres444 Tryznt444 Tryzbody444 TryzfiAt445 Tryzjoin445 Tryzres445 Tryznt445 Tryzbody445 TryzfiAt446 Tryzjoin446 Tryzres446 Tryznt446 Tryzbody446 TryzfiAt447 Tryzjoin447 Tryzres447 Tryznt447 Tryzbody447 TryzfiAt448 Tryzjoin448 Tryzres448 Tryznt448 Tryzbody448 TryzfiAt449 Tryzjoin449 Tryzres449 Tryznt449 Tryzbody449 TryzfiAt450 Tryzjoin450 Tryzres450 Tryznt450 Tryzbody450 TryzfiAt451 Tryzjoin451 Tryzres451 Tryznt451 Tryzbody451 TryzfiAt452 Tryzjoin452 Tryzres452 Tryznt452 Tryzbody452 TryzfiAt476 Tryzjoin476 Tryzres476 Tryznt476 Tryzbody476 Tryzplan3at1 Tryzplan3at3 Tryzplan4at12 Tryzplan14at9 Tryzplan14at14 Tryzplan14at22 Tryzplan16at7 Tryzplan16at5 Tryzplan30at1 Tryzplan32at7 Tryzplan32at11 Tryzplan34at6 Tryzplan52at18 Tryzplan63at5 Tryzplan64at1 Tryzplan65at1 Tryzplan67at5 Tryzplan67at6 Tryzplan69at15 Tryzplan69at9 Tryzplan71at0 Tryzplan76at9 Tryzplan79at15 Tryzplan79at19 Tryzplan79at8 Tryzplan93at10 Tryzplan95at12 Tryzplan97at8 Tryzplan105at2 Tryzplan105at4 Tryzplan106at6 Tryzplan110at5 Tryzplan111at2 Tryzplan124at6 Tryzplan125at6 Tryzplan129at5 Tryzplan141at7 Tryzplan147at12 Tryzplan151at3 Tryzplan153at2 Tryzplan153at16 Tryzplan153at6 Tryzplan153at14 Tryzplan156at0 Tryzplan161at7 Tryzplan169at2 Tryzplan174at1 Tryzplan174at2 Tryzplan176at3 Tryzplan176at6 Tryzplan183at3 Tryzplan186at17 Tryzplan192at3 Tryzplan194at1 Tryzplan198at1 Tryzplan202at5 Tryzplan202at13 Tryzplan202at4 Tryzplan202at16 Tryzplan202at20 Tryzplan202at10 Tryzplan202at18 Tryzplan202at22 Tryzplan216at14 Tryzplan218at9 Tryzplan218at4 Tryzplan225at9 Tryzplan225at8 Tryzplan225at12 Tryzplan225at10 Tryzplan225at14 Tryzplan227at9 Tryzplan235at4 Tryzplan235at6 Tryzplan236at10 Tryzplan237at10 Tryzplan239at3 Tryzplan240at23 Tryzplan240at11 Tryzplan240at5 Tryzplan240at17 Tryzplan240at16 Tryzplan240at22 Tryzplan241at1 Tryzplan241at3 Tryzplan241at5 Tryzplan241at8 Tryzplan242at1 Tryzplan242at3 Tryzplan242at15 Tryzplan242at5 Tryzplan242at13 Tryzplan242at21 Tryzplan242at8 Tryzplan242at10 Tryzplan242at18 Tryzplan246at4 Tryzplan248at13 Tryzplan250at0 Tryzplan256at0 Tryzplan256at1 Tryzplan256at3 Tryzplan256at7 Tryzplan256at11 Tryzplan256at10 Tryzplan257at0 Tryzplan260at0 Tryzplan261at0 Tryzplan261at2 Tryzplan271at17 Tryzplan274at8 Tryzplan277at17 Tryzplan277at20 Tryzplan277at6 Tryzplan278at3 Tryzplan278at11 Tryzplan278at9 Tryzplan278at6 Tryzplan278at10 Tryzplan281at3 Tryzplan281at9 Tryzplan285at1 Tryzplan286at1 Tryzplan286at2 Tryzplan292at3 Tryzplan292at5 Tryzplan292at6 Tryzplan294at1 Tryzplan294at3 Tryzplan294at2 Tryzplan297at3 Tryzplan311at17 Tryzplan317at0 Tryzplan319at15 Tryzplan319at11 Tryzplan330at1 Tryzplan333at15 Tryzplan333at11 Tryzplan339at4 Tryzplan342at17 Tryzplan342at8 Tryzplan353at1 Tryzplan360at4 Tryzplan360at6 Tryzplan361at10 Tryzplan362at10 Tryzplan364at3 Tryzplan365at23 Tryzplan365at11 Tryzplan365at5 Tryzplan365at17 Tryzplan365at16 Tryzplan365at22 Tryzplan366at1 Tryzplan366at3 Tryzplan366at5 Tryzplan366at8 Tryzplan367at1 Tryzplan367at3 Tryzplan367at15 Tryzplan367at5 Tryzplan367at13 Tryzplan367at21 Tryzplan367at8 Tryzplan367at10 Tryzplan367at18 Tryzplan369at0 Tryzplan382at8 Tryzplan385at14 Tryzplan387at4 Tryzplan397at3 Tryzplan410at7 Tryzplan410at31 Tryzplan410at6 Tryzplan410at14 Tryzplan412at3 Tryzplan412at5 Tryzplan412at6 Tryzplan424at5 Tryzplan425at1 Tryzplan432at4 Tryzplan438at1 Tryzplan440at3 Tryzplan443at3
end Go.Abs
