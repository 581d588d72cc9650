/- What is asked of the types of this seat's program and of its functions, each a closed fact. Written by seat.py, an own tool. -/
import Derived.Test.YtjhnabdcmfjeoaaGreatDoorYD
import Derived.Test.YtjhnabdcmfjeoaaGreatDoorProg
import Derived.KernelRfl
namespace Go.Proofs.YtjhnabdcmfjeoaaGreatDoor.Ab
open Go
@[simp] theorem ty1 : tyI Tryz.prog 1 = { kind := .func, size := 1, bytes := 8, zero := [.nilFunc], offs := [], fts := [] } := by kernel_rfl
@[simp] theorem ty2 : tyI Tryz.prog 2 = { kind := .int .i64, size := 1, bytes := 8, zero := [.int .i64 0], offs := [], fts := [] } := by kernel_rfl
@[simp] theorem ty3 : tyI Tryz.prog 3 = { kind := .int .i64, size := 1, bytes := 8, zero := [.int .i64 0], offs := [], fts := [] } := by kernel_rfl
@[simp] theorem ty4 : tyI Tryz.prog 4 = { kind := .bool, size := 1, bytes := 1, zero := [.bool false], offs := [], fts := [] } := by kernel_rfl
@[simp] theorem ty5 : tyI Tryz.prog 5 = { kind := .int .u8, size := 1, bytes := 1, zero := [.int .u8 0], offs := [], fts := [] } := by kernel_rfl
@[simp] theorem ty6 : tyI Tryz.prog 6 = { kind := .int .u8, size := 1, bytes := 1, zero := [.int .u8 0], offs := [], fts := [] } := by kernel_rfl
@[simp] theorem ty7 : tyI Tryz.prog 7 = { kind := .struct, size := 4, bytes := 24, zero := [.int .i64 0, .int .i64 0, .bool false, .int .u8 0], offs := [0, 1, 2, 3], fts := [2, 3, 4, 6] } := by kernel_rfl
@[simp] theorem ty8 : tyI Tryz.prog 8 = { kind := .struct, size := 4, bytes := 24, zero := [.int .i64 0, .int .i64 0, .bool false, .int .u8 0], offs := [0, 1, 2, 3], fts := [2, 3, 4, 6] } := by kernel_rfl
@[simp] theorem ty9 : tyI Tryz.prog 9 = { kind := .str, size := 1, bytes := 16, zero := [.string .empty], offs := [], fts := [] } := by kernel_rfl
@[simp] theorem ty10 : tyI Tryz.prog 10 = { kind := .str, size := 1, bytes := 16, zero := [.string .empty], offs := [], fts := [] } := by kernel_rfl
@[simp] theorem ty11 : tyI Tryz.prog 11 = { kind := .str, size := 1, bytes := 16, zero := [.string .empty], offs := [], fts := [] } := by kernel_rfl
@[simp] theorem ty12 : tyI Tryz.prog 12 = { kind := .int .u64, size := 1, bytes := 8, zero := [.int .u64 0], offs := [], fts := [] } := by kernel_rfl
@[simp] theorem ty13 : tyI Tryz.prog 13 = { kind := .struct, size := 2, bytes := 24, zero := [.string .empty, .int .u64 0], offs := [0, 1], fts := [9, 12] } := by kernel_rfl
@[simp] theorem ty14 : tyI Tryz.prog 14 = { kind := .struct, size := 2, bytes := 24, zero := [.string .empty, .int .u64 0], offs := [0, 1], fts := [9, 12] } := by kernel_rfl
@[simp] theorem ty15 : tyI Tryz.prog 15 = { kind := .ptr 201, size := 1, bytes := 8, zero := [.pointer none], offs := [], fts := [] } := by kernel_rfl
@[simp] theorem ty16 : tyI Tryz.prog 16 = { kind := .ptr 204, size := 1, bytes := 8, zero := [.pointer none], offs := [], fts := [] } := by kernel_rfl
@[simp] theorem ty17 : tyI Tryz.prog 17 = { kind := .ptr 212, size := 1, bytes := 8, zero := [.pointer none], offs := [], fts := [] } := by kernel_rfl
@[simp] theorem ty18 : tyI Tryz.prog 18 = { kind := .struct, size := 1, bytes := 8, zero := [.pointer none], offs := [0], fts := [17] } := by kernel_rfl
@[simp] theorem ty19 : tyI Tryz.prog 19 = { kind := .struct, size := 1, bytes := 8, zero := [.pointer none], offs := [0], fts := [17] } := by kernel_rfl
@[simp] theorem ty20 : tyI Tryz.prog 20 = { kind := .iface, size := 1, bytes := 16, zero := [.nilIface], offs := [], fts := [] } := by kernel_rfl
@[simp] theorem ty21 : tyI Tryz.prog 21 = { kind := .int .i32, size := 1, bytes := 4, zero := [.int .i32 0], offs := [], fts := [] } := by kernel_rfl
@[simp] theorem ty22 : tyI Tryz.prog 22 = { kind := .slice 59, size := 1, bytes := 24, zero := [.slice none 0 0], offs := [], fts := [] } := by kernel_rfl
@[simp] theorem ty23 : tyI Tryz.prog 23 = { kind := .slice 3, size := 1, bytes := 24, zero := [.slice none 0 0], offs := [], fts := [] } := by kernel_rfl
@[simp] theorem ty24 : tyI Tryz.prog 24 = { kind := .slice 68, size := 1, bytes := 24, zero := [.slice none 0 0], offs := [], fts := [] } := by kernel_rfl
@[simp] theorem ty25 : tyI Tryz.prog 25 = { kind := .struct, size := 4, bytes := 64, zero := [.int .i64 0, .int .i64 0, .slice none 0 0, .slice none 0 0], offs := [0, 1, 2, 3], fts := [3, 3, 23, 24] } := by kernel_rfl
@[simp] theorem ty26 : tyI Tryz.prog 26 = { kind := .struct, size := 4, bytes := 64, zero := [.int .i64 0, .int .i64 0, .slice none 0 0, .slice none 0 0], offs := [0, 1, 2, 3], fts := [3, 3, 23, 24] } := by kernel_rfl
@[simp] theorem ty27 : tyI Tryz.prog 27 = { kind := .slice 5, size := 1, bytes := 24, zero := [.slice none 0 0], offs := [], fts := [] } := by kernel_rfl
@[simp] theorem ty28 : tyI Tryz.prog 28 = { kind := .ptr 105, size := 1, bytes := 8, zero := [.pointer none], offs := [], fts := [] } := by kernel_rfl
@[simp] theorem ty29 : tyI Tryz.prog 29 = { kind := .func, size := 1, bytes := 8, zero := [.nilFunc], offs := [], fts := [] } := by kernel_rfl
@[simp] theorem ty30 : tyI Tryz.prog 30 = { kind := .func, size := 1, bytes := 8, zero := [.nilFunc], offs := [], fts := [] } := by kernel_rfl
@[simp] theorem ty31 : tyI Tryz.prog 31 = { kind := .iface, size := 1, bytes := 16, zero := [.nilIface], offs := [], fts := [] } := by kernel_rfl
@[simp] theorem ty32 : tyI Tryz.prog 32 = { kind := .iface, size := 1, bytes := 16, zero := [.nilIface], offs := [], fts := [] } := by kernel_rfl
@[simp] theorem ty34 : tyI Tryz.prog 34 = { kind := .func, size := 1, bytes := 8, zero := [.nilFunc], offs := [], fts := [] } := by kernel_rfl
@[simp] theorem ty35 : tyI Tryz.prog 35 = { kind := .struct, size := 4, bytes := 64, zero := [.int .i64 0, .int .i64 0, .slice none 0 0, .slice none 0 0], offs := [0, 1, 2, 3], fts := [3, 3, 23, 24] } := by kernel_rfl
@[simp] theorem ty36 : tyI Tryz.prog 36 = { kind := .func, size := 1, bytes := 8, zero := [.nilFunc], offs := [], fts := [] } := by kernel_rfl
@[simp] theorem ty38 : tyI Tryz.prog 38 = { kind := .func, size := 1, bytes := 8, zero := [.nilFunc], offs := [], fts := [] } := by kernel_rfl
@[simp] theorem ty40 : tyI Tryz.prog 40 = { kind := .func, size := 1, bytes := 8, zero := [.nilFunc], offs := [], fts := [] } := by kernel_rfl
@[simp] theorem ty42 : tyI Tryz.prog 42 = { kind := .func, size := 1, bytes := 8, zero := [.nilFunc], offs := [], fts := [] } := by kernel_rfl
@[simp] theorem ty43 : tyI Tryz.prog 43 = { kind := .func, size := 1, bytes := 8, zero := [.nilFunc], offs := [], fts := [] } := by kernel_rfl
@[simp] theorem ty44 : tyI Tryz.prog 44 = { kind := .func, size := 1, bytes := 8, zero := [.nilFunc], offs := [], fts := [] } := by kernel_rfl
@[simp] theorem ty45 : tyI Tryz.prog 45 = { kind := .func, size := 1, bytes := 8, zero := [.nilFunc], offs := [], fts := [] } := by kernel_rfl
@[simp] theorem ty46 : tyI Tryz.prog 46 = { kind := .func, size := 1, bytes := 8, zero := [.nilFunc], offs := [], fts := [] } := by kernel_rfl
@[simp] theorem ty47 : tyI Tryz.prog 47 = { kind := .slice 64, size := 1, bytes := 24, zero := [.slice none 0 0], offs := [], fts := [] } := by kernel_rfl
@[simp] theorem ty48 : tyI Tryz.prog 48 = { kind := .struct, size := 2, bytes := 40, zero := [.string .empty, .slice none 0 0], offs := [0, 1], fts := [9, 47] } := by kernel_rfl
@[simp] theorem ty49 : tyI Tryz.prog 49 = { kind := .struct, size := 2, bytes := 40, zero := [.string .empty, .slice none 0 0], offs := [0, 1], fts := [9, 47] } := by kernel_rfl
@[simp] theorem ty50 : tyI Tryz.prog 50 = { kind := .struct, size := 2, bytes := 40, zero := [.string .empty, .slice none 0 0], offs := [0, 1], fts := [9, 47] } := by kernel_rfl
@[simp] theorem ty52 : tyI Tryz.prog 52 = { kind := .func, size := 1, bytes := 8, zero := [.nilFunc], offs := [], fts := [] } := by kernel_rfl
@[simp] theorem ty53 : tyI Tryz.prog 53 = { kind := .func, size := 1, bytes := 8, zero := [.nilFunc], offs := [], fts := [] } := by kernel_rfl
@[simp] theorem ty54 : tyI Tryz.prog 54 = { kind := .func, size := 1, bytes := 8, zero := [.nilFunc], offs := [], fts := [] } := by kernel_rfl
@[simp] theorem ty55 : tyI Tryz.prog 55 = { kind := .func, size := 1, bytes := 8, zero := [.nilFunc], offs := [], fts := [] } := by kernel_rfl
@[simp] theorem ty56 : tyI Tryz.prog 56 = { kind := .func, size := 1, bytes := 8, zero := [.nilFunc], offs := [], fts := [] } := by kernel_rfl
@[simp] theorem ty57 : tyI Tryz.prog 57 = { kind := .slice 118, size := 1, bytes := 24, zero := [.slice none 0 0], offs := [], fts := [] } := by kernel_rfl
@[simp] theorem ty58 : tyI Tryz.prog 58 = { kind := .struct, size := 2, bytes := 40, zero := [.string .empty, .slice none 0 0], offs := [0, 1], fts := [9, 57] } := by kernel_rfl
@[simp] theorem ty59 : tyI Tryz.prog 59 = { kind := .struct, size := 2, bytes := 40, zero := [.string .empty, .slice none 0 0], offs := [0, 1], fts := [9, 57] } := by kernel_rfl
@[simp] theorem ty61 : tyI Tryz.prog 61 = { kind := .func, size := 1, bytes := 8, zero := [.nilFunc], offs := [], fts := [] } := by kernel_rfl
@[simp] theorem ty62 : tyI Tryz.prog 62 = { kind := .struct, size := 4, bytes := 40, zero := [.int .i64 0, .int .i64 0, .string .empty, .bool false], offs := [0, 1, 2, 3], fts := [3, 3, 9, 4] } := by kernel_rfl
@[simp] theorem ty63 : tyI Tryz.prog 63 = { kind := .struct, size := 4, bytes := 40, zero := [.int .i64 0, .int .i64 0, .string .empty, .bool false], offs := [0, 1, 2, 3], fts := [3, 3, 9, 4] } := by kernel_rfl
@[simp] theorem fk63 : fkinds Tryz.prog 63 = [.int .i64, .int .i64, .str, .bool] := by kernel_rfl
@[simp] theorem ps63 : plainStruct Tryz.prog 63 = true := by kernel_rfl
@[simp] theorem ty64 : tyI Tryz.prog 64 = { kind := .slice 63, size := 1, bytes := 24, zero := [.slice none 0 0], offs := [], fts := [] } := by kernel_rfl
@[simp] theorem ty65 : tyI Tryz.prog 65 = { kind := .int .i64, size := 1, bytes := 8, zero := [.int .i64 0], offs := [], fts := [] } := by kernel_rfl
@[simp] theorem ty66 : tyI Tryz.prog 66 = { kind := .func, size := 1, bytes := 8, zero := [.nilFunc], offs := [], fts := [] } := by kernel_rfl
@[simp] theorem ty67 : tyI Tryz.prog 67 = { kind := .struct, size := 3, bytes := 48, zero := [.string .empty, .bool false, .slice none 0 0], offs := [0, 1, 2], fts := [9, 4, 64] } := by kernel_rfl
@[simp] theorem ty68 : tyI Tryz.prog 68 = { kind := .struct, size := 3, bytes := 48, zero := [.string .empty, .bool false, .slice none 0 0], offs := [0, 1, 2], fts := [9, 4, 64] } := by kernel_rfl
@[simp] theorem ty69 : tyI Tryz.prog 69 = { kind := .func, size := 1, bytes := 8, zero := [.nilFunc], offs := [], fts := [] } := by kernel_rfl
@[simp] theorem ty70 : tyI Tryz.prog 70 = { kind := .func, size := 1, bytes := 8, zero := [.nilFunc], offs := [], fts := [] } := by kernel_rfl
@[simp] theorem ty71 : tyI Tryz.prog 71 = { kind := .func, size := 1, bytes := 8, zero := [.nilFunc], offs := [], fts := [] } := by kernel_rfl
@[simp] theorem ty73 : tyI Tryz.prog 73 = { kind := .func, size := 1, bytes := 8, zero := [.nilFunc], offs := [], fts := [] } := by kernel_rfl
@[simp] theorem ty75 : tyI Tryz.prog 75 = { kind := .func, size := 1, bytes := 8, zero := [.nilFunc], offs := [], fts := [] } := by kernel_rfl
@[simp] theorem ty76 : tyI Tryz.prog 76 = { kind := .func, size := 1, bytes := 8, zero := [.nilFunc], offs := [], fts := [] } := by kernel_rfl
@[simp] theorem ty77 : tyI Tryz.prog 77 = { kind := .func, size := 1, bytes := 8, zero := [.nilFunc], offs := [], fts := [] } := by kernel_rfl
@[simp] theorem ty78 : tyI Tryz.prog 78 = { kind := .ptr 80, size := 1, bytes := 8, zero := [.pointer none], offs := [], fts := [] } := by kernel_rfl
@[simp] theorem ty79 : tyI Tryz.prog 79 = { kind := .struct, size := 2, bytes := 32, zero := [.slice none 0 0, .bool false], offs := [0, 1], fts := [27, 4] } := by kernel_rfl
@[simp] theorem ty80 : tyI Tryz.prog 80 = { kind := .struct, size := 2, bytes := 32, zero := [.slice none 0 0, .bool false], offs := [0, 1], fts := [27, 4] } := by kernel_rfl
@[simp] theorem ty81 : tyI Tryz.prog 81 = { kind := .func, size := 1, bytes := 8, zero := [.nilFunc], offs := [], fts := [] } := by kernel_rfl
@[simp] theorem ty82 : tyI Tryz.prog 82 = { kind := .func, size := 1, bytes := 8, zero := [.nilFunc], offs := [], fts := [] } := by kernel_rfl
@[simp] theorem ty83 : tyI Tryz.prog 83 = { kind := .func, size := 1, bytes := 8, zero := [.nilFunc], offs := [], fts := [] } := by kernel_rfl
@[simp] theorem ty84 : tyI Tryz.prog 84 = { kind := .func, size := 1, bytes := 8, zero := [.nilFunc], offs := [], fts := [] } := by kernel_rfl
@[simp] theorem ty85 : tyI Tryz.prog 85 = { kind := .struct, size := 2, bytes := 32, zero := [.slice none 0 0, .bool false], offs := [0, 1], fts := [27, 4] } := by kernel_rfl
@[simp] theorem ty86 : tyI Tryz.prog 86 = { kind := .struct, size := 2, bytes := 32, zero := [.slice none 0 0, .bool false], offs := [0, 1], fts := [27, 4] } := by kernel_rfl
@[simp] theorem ty88 : tyI Tryz.prog 88 = { kind := .func, size := 1, bytes := 8, zero := [.nilFunc], offs := [], fts := [] } := by kernel_rfl
@[simp] theorem ty89 : tyI Tryz.prog 89 = { kind := .int .u64, size := 1, bytes := 8, zero := [.int .u64 0], offs := [], fts := [] } := by kernel_rfl
@[simp] theorem ty91 : tyI Tryz.prog 91 = { kind := .func, size := 1, bytes := 8, zero := [.nilFunc], offs := [], fts := [] } := by kernel_rfl
@[simp] theorem ty93 : tyI Tryz.prog 93 = { kind := .func, size := 1, bytes := 8, zero := [.nilFunc], offs := [], fts := [] } := by kernel_rfl
@[simp] theorem ty94 : tyI Tryz.prog 94 = { kind := .func, size := 1, bytes := 8, zero := [.nilFunc], offs := [], fts := [] } := by kernel_rfl
@[simp] theorem ty95 : tyI Tryz.prog 95 = { kind := .func, size := 1, bytes := 8, zero := [.nilFunc], offs := [], fts := [] } := by kernel_rfl
@[simp] theorem ty96 : tyI Tryz.prog 96 = { kind := .ptr 65, size := 1, bytes := 8, zero := [.pointer none], offs := [], fts := [] } := by kernel_rfl
@[simp] theorem ty97 : tyI Tryz.prog 97 = { kind := .func, size := 1, bytes := 8, zero := [.nilFunc], offs := [], fts := [] } := by kernel_rfl
@[simp] theorem ty98 : tyI Tryz.prog 98 = { kind := .func, size := 1, bytes := 8, zero := [.nilFunc], offs := [], fts := [] } := by kernel_rfl
@[simp] theorem ty99 : tyI Tryz.prog 99 = { kind := .func, size := 1, bytes := 8, zero := [.nilFunc], offs := [], fts := [] } := by kernel_rfl
@[simp] theorem ty100 : tyI Tryz.prog 100 = { kind := .func, size := 1, bytes := 8, zero := [.nilFunc], offs := [], fts := [] } := by kernel_rfl
@[simp] theorem ty102 : tyI Tryz.prog 102 = { kind := .func, size := 1, bytes := 8, zero := [.nilFunc], offs := [], fts := [] } := by kernel_rfl
@[simp] theorem ty103 : tyI Tryz.prog 103 = { kind := .map 9 3, size := 1, bytes := 8, zero := [.map none], offs := [], fts := [] } := by kernel_rfl
@[simp] theorem ty104 : tyI Tryz.prog 104 = { kind := .struct, size := 2, bytes := 32, zero := [.slice none 0 0, .map none], offs := [0, 1], fts := [22, 103] } := by kernel_rfl
@[simp] theorem ty105 : tyI Tryz.prog 105 = { kind := .struct, size := 2, bytes := 32, zero := [.slice none 0 0, .map none], offs := [0, 1], fts := [22, 103] } := by kernel_rfl
@[simp] theorem ty106 : tyI Tryz.prog 106 = { kind := .func, size := 1, bytes := 8, zero := [.nilFunc], offs := [], fts := [] } := by kernel_rfl
@[simp] theorem ty108 : tyI Tryz.prog 108 = { kind := .func, size := 1, bytes := 8, zero := [.nilFunc], offs := [], fts := [] } := by kernel_rfl
@[simp] theorem ty109 : tyI Tryz.prog 109 = { kind := .func, size := 1, bytes := 8, zero := [.nilFunc], offs := [], fts := [] } := by kernel_rfl
@[simp] theorem ty111 : tyI Tryz.prog 111 = { kind := .func, size := 1, bytes := 8, zero := [.nilFunc], offs := [], fts := [] } := by kernel_rfl
@[simp] theorem ty112 : tyI Tryz.prog 112 = { kind := .func, size := 1, bytes := 8, zero := [.nilFunc], offs := [], fts := [] } := by kernel_rfl
@[simp] theorem ty113 : tyI Tryz.prog 113 = { kind := .func, size := 1, bytes := 8, zero := [.nilFunc], offs := [], fts := [] } := by kernel_rfl
@[simp] theorem ty114 : tyI Tryz.prog 114 = { kind := .func, size := 1, bytes := 8, zero := [.nilFunc], offs := [], fts := [] } := by kernel_rfl
@[simp] theorem ty115 : tyI Tryz.prog 115 = { kind := .func, size := 1, bytes := 8, zero := [.nilFunc], offs := [], fts := [] } := by kernel_rfl
@[simp] theorem ty116 : tyI Tryz.prog 116 = { kind := .func, size := 1, bytes := 8, zero := [.nilFunc], offs := [], fts := [] } := by kernel_rfl
@[simp] theorem ty117 : tyI Tryz.prog 117 = { kind := .struct, size := 4, bytes := 32, zero := [.string .empty, .int .i64 0, .bool false, .bool false], offs := [0, 1, 2, 3], fts := [9, 3, 4, 4] } := by kernel_rfl
@[simp] theorem ty118 : tyI Tryz.prog 118 = { kind := .struct, size := 4, bytes := 32, zero := [.string .empty, .int .i64 0, .bool false, .bool false], offs := [0, 1, 2, 3], fts := [9, 3, 4, 4] } := by kernel_rfl
@[simp] theorem fk118 : fkinds Tryz.prog 118 = [.str, .int .i64, .bool, .bool] := by kernel_rfl
@[simp] theorem ps118 : plainStruct Tryz.prog 118 = true := by kernel_rfl
@[simp] theorem ty119 : tyI Tryz.prog 119 = { kind := .func, size := 1, bytes := 8, zero := [.nilFunc], offs := [], fts := [] } := by kernel_rfl
@[simp] theorem ty120 : tyI Tryz.prog 120 = { kind := .func, size := 1, bytes := 8, zero := [.nilFunc], offs := [], fts := [] } := by kernel_rfl
@[simp] theorem ty121 : tyI Tryz.prog 121 = { kind := .func, size := 1, bytes := 8, zero := [.nilFunc], offs := [], fts := [] } := by kernel_rfl
@[simp] theorem ty123 : tyI Tryz.prog 123 = { kind := .func, size := 1, bytes := 8, zero := [.nilFunc], offs := [], fts := [] } := by kernel_rfl
@[simp] theorem ty125 : tyI Tryz.prog 125 = { kind := .func, size := 1, bytes := 8, zero := [.nilFunc], offs := [], fts := [] } := by kernel_rfl
@[simp] theorem ty126 : tyI Tryz.prog 126 = { kind := .func, size := 1, bytes := 8, zero := [.nilFunc], offs := [], fts := [] } := by kernel_rfl
@[simp] theorem ty127 : tyI Tryz.prog 127 = { kind := .func, size := 1, bytes := 8, zero := [.nilFunc], offs := [], fts := [] } := by kernel_rfl
@[simp] theorem ty129 : tyI Tryz.prog 129 = { kind := .func, size := 1, bytes := 8, zero := [.nilFunc], offs := [], fts := [] } := by kernel_rfl
@[simp] theorem ty131 : tyI Tryz.prog 131 = { kind := .func, size := 1, bytes := 8, zero := [.nilFunc], offs := [], fts := [] } := by kernel_rfl
@[simp] theorem ty133 : tyI Tryz.prog 133 = { kind := .func, size := 1, bytes := 8, zero := [.nilFunc], offs := [], fts := [] } := by kernel_rfl
@[simp] theorem ty135 : tyI Tryz.prog 135 = { kind := .int .u64, size := 1, bytes := 8, zero := [.int .u64 0], offs := [], fts := [] } := by kernel_rfl
@[simp] theorem ty136 : tyI Tryz.prog 136 = { kind := .struct, size := 3, bytes := 24, zero := [.pointer none, .pointer none, .int .u64 0], offs := [0, 1, 2], fts := [17, 134, 135] } := by kernel_rfl
@[simp] theorem ty137 : tyI Tryz.prog 137 = { kind := .struct, size := 3, bytes := 24, zero := [.pointer none, .pointer none, .int .u64 0], offs := [0, 1, 2], fts := [17, 134, 135] } := by kernel_rfl
@[simp] theorem ty138 : tyI Tryz.prog 138 = { kind := .func, size := 1, bytes := 8, zero := [.nilFunc], offs := [], fts := [] } := by kernel_rfl
@[simp] theorem ty139 : tyI Tryz.prog 139 = { kind := .iface, size := 1, bytes := 16, zero := [.nilIface], offs := [], fts := [] } := by kernel_rfl
@[simp] theorem ty140 : tyI Tryz.prog 140 = { kind := .iface, size := 1, bytes := 16, zero := [.nilIface], offs := [], fts := [] } := by kernel_rfl
@[simp] theorem ty141 : tyI Tryz.prog 141 = { kind := .func, size := 1, bytes := 8, zero := [.nilFunc], offs := [], fts := [] } := by kernel_rfl
@[simp] theorem ty142 : tyI Tryz.prog 142 = { kind := .int .u8, size := 1, bytes := 1, zero := [.int .u8 0], offs := [], fts := [] } := by kernel_rfl
@[simp] theorem ty143 : tyI Tryz.prog 143 = { kind := .func, size := 1, bytes := 8, zero := [.nilFunc], offs := [], fts := [] } := by kernel_rfl
@[simp] theorem ty144 : tyI Tryz.prog 144 = { kind := .func, size := 1, bytes := 8, zero := [.nilFunc], offs := [], fts := [] } := by kernel_rfl
@[simp] theorem ty145 : tyI Tryz.prog 145 = { kind := .func, size := 1, bytes := 8, zero := [.nilFunc], offs := [], fts := [] } := by kernel_rfl
@[simp] theorem ty146 : tyI Tryz.prog 146 = { kind := .func, size := 1, bytes := 8, zero := [.nilFunc], offs := [], fts := [] } := by kernel_rfl
@[simp] theorem ty147 : tyI Tryz.prog 147 = { kind := .func, size := 1, bytes := 8, zero := [.nilFunc], offs := [], fts := [] } := by kernel_rfl
@[simp] theorem ty148 : tyI Tryz.prog 148 = { kind := .func, size := 1, bytes := 8, zero := [.nilFunc], offs := [], fts := [] } := by kernel_rfl
@[simp] theorem ty149 : tyI Tryz.prog 149 = { kind := .func, size := 1, bytes := 8, zero := [.nilFunc], offs := [], fts := [] } := by kernel_rfl
@[simp] theorem ty150 : tyI Tryz.prog 150 = { kind := .int .u64, size := 1, bytes := 8, zero := [.int .u64 0], offs := [], fts := [] } := by kernel_rfl
@[simp] theorem ty152 : tyI Tryz.prog 152 = { kind := .func, size := 1, bytes := 8, zero := [.nilFunc], offs := [], fts := [] } := by kernel_rfl
@[simp] theorem ty153 : tyI Tryz.prog 153 = { kind := .func, size := 1, bytes := 8, zero := [.nilFunc], offs := [], fts := [] } := by kernel_rfl
@[simp] theorem ty155 : tyI Tryz.prog 155 = { kind := .func, size := 1, bytes := 8, zero := [.nilFunc], offs := [], fts := [] } := by kernel_rfl
@[simp] theorem ty156 : tyI Tryz.prog 156 = { kind := .func, size := 1, bytes := 8, zero := [.nilFunc], offs := [], fts := [] } := by kernel_rfl
@[simp] theorem ty157 : tyI Tryz.prog 157 = { kind := .struct, size := 1, bytes := 8, zero := [.pointer none], offs := [0], fts := [17] } := by kernel_rfl
@[simp] theorem ty158 : tyI Tryz.prog 158 = { kind := .struct, size := 1, bytes := 8, zero := [.pointer none], offs := [0], fts := [17] } := by kernel_rfl
@[simp] theorem ty159 : tyI Tryz.prog 159 = { kind := .ptr 216, size := 1, bytes := 8, zero := [.pointer none], offs := [], fts := [] } := by kernel_rfl
@[simp] theorem ty160 : tyI Tryz.prog 160 = { kind := .func, size := 1, bytes := 8, zero := [.nilFunc], offs := [], fts := [] } := by kernel_rfl
@[simp] theorem ty161 : tyI Tryz.prog 161 = { kind := .func, size := 1, bytes := 8, zero := [.nilFunc], offs := [], fts := [] } := by kernel_rfl
@[simp] theorem ty162 : tyI Tryz.prog 162 = { kind := .func, size := 1, bytes := 8, zero := [.nilFunc], offs := [], fts := [] } := by kernel_rfl
@[simp] theorem ty163 : tyI Tryz.prog 163 = { kind := .iface, size := 1, bytes := 16, zero := [.nilIface], offs := [], fts := [] } := by kernel_rfl
@[simp] theorem ty165 : tyI Tryz.prog 165 = { kind := .func, size := 1, bytes := 8, zero := [.nilFunc], offs := [], fts := [] } := by kernel_rfl
@[simp] theorem ty166 : tyI Tryz.prog 166 = { kind := .iface, size := 1, bytes := 16, zero := [.nilIface], offs := [], fts := [] } := by kernel_rfl
@[simp] theorem ty167 : tyI Tryz.prog 167 = { kind := .func, size := 1, bytes := 8, zero := [.nilFunc], offs := [], fts := [] } := by kernel_rfl
@[simp] theorem ty168 : tyI Tryz.prog 168 = { kind := .iface, size := 1, bytes := 16, zero := [.nilIface], offs := [], fts := [] } := by kernel_rfl
@[simp] theorem ty169 : tyI Tryz.prog 169 = { kind := .slice 32, size := 1, bytes := 24, zero := [.slice none 0 0], offs := [], fts := [] } := by kernel_rfl
@[simp] theorem ty170 : tyI Tryz.prog 170 = { kind := .func, size := 1, bytes := 8, zero := [.nilFunc], offs := [], fts := [] } := by kernel_rfl
@[simp] theorem ty172 : tyI Tryz.prog 172 = { kind := .func, size := 1, bytes := 8, zero := [.nilFunc], offs := [], fts := [] } := by kernel_rfl
@[simp] theorem ty173 : tyI Tryz.prog 173 = { kind := .func, size := 1, bytes := 8, zero := [.nilFunc], offs := [], fts := [] } := by kernel_rfl
@[simp] theorem ty174 : tyI Tryz.prog 174 = { kind := .func, size := 1, bytes := 8, zero := [.nilFunc], offs := [], fts := [] } := by kernel_rfl
@[simp] theorem ty175 : tyI Tryz.prog 175 = { kind := .func, size := 1, bytes := 8, zero := [.nilFunc], offs := [], fts := [] } := by kernel_rfl
@[simp] theorem ty176 : tyI Tryz.prog 176 = { kind := .func, size := 1, bytes := 8, zero := [.nilFunc], offs := [], fts := [] } := by kernel_rfl
@[simp] theorem ty177 : tyI Tryz.prog 177 = { kind := .func, size := 1, bytes := 8, zero := [.nilFunc], offs := [], fts := [] } := by kernel_rfl
@[simp] theorem ty178 : tyI Tryz.prog 178 = { kind := .func, size := 1, bytes := 8, zero := [.nilFunc], offs := [], fts := [] } := by kernel_rfl
@[simp] theorem ty179 : tyI Tryz.prog 179 = { kind := .func, size := 1, bytes := 8, zero := [.nilFunc], offs := [], fts := [] } := by kernel_rfl
@[simp] theorem ty180 : tyI Tryz.prog 180 = { kind := .func, size := 1, bytes := 8, zero := [.nilFunc], offs := [], fts := [] } := by kernel_rfl
@[simp] theorem ty182 : tyI Tryz.prog 182 = { kind := .func, size := 1, bytes := 8, zero := [.nilFunc], offs := [], fts := [] } := by kernel_rfl
@[simp] theorem ty184 : tyI Tryz.prog 184 = { kind := .func, size := 1, bytes := 8, zero := [.nilFunc], offs := [], fts := [] } := by kernel_rfl
@[simp] theorem ty185 : tyI Tryz.prog 185 = { kind := .func, size := 1, bytes := 8, zero := [.nilFunc], offs := [], fts := [] } := by kernel_rfl
@[simp] theorem ty186 : tyI Tryz.prog 186 = { kind := .func, size := 1, bytes := 8, zero := [.nilFunc], offs := [], fts := [] } := by kernel_rfl
@[simp] theorem ty187 : tyI Tryz.prog 187 = { kind := .func, size := 1, bytes := 8, zero := [.nilFunc], offs := [], fts := [] } := by kernel_rfl
@[simp] theorem ty189 : tyI Tryz.prog 189 = { kind := .func, size := 1, bytes := 8, zero := [.nilFunc], offs := [], fts := [] } := by kernel_rfl
@[simp] theorem ty190 : tyI Tryz.prog 190 = { kind := .func, size := 1, bytes := 8, zero := [.nilFunc], offs := [], fts := [] } := by kernel_rfl
@[simp] theorem ty191 : tyI Tryz.prog 191 = { kind := .func, size := 1, bytes := 8, zero := [.nilFunc], offs := [], fts := [] } := by kernel_rfl
@[simp] theorem ty192 : tyI Tryz.prog 192 = { kind := .func, size := 1, bytes := 8, zero := [.nilFunc], offs := [], fts := [] } := by kernel_rfl
@[simp] theorem ty193 : tyI Tryz.prog 193 = { kind := .func, size := 1, bytes := 8, zero := [.nilFunc], offs := [], fts := [] } := by kernel_rfl
@[simp] theorem ty195 : tyI Tryz.prog 195 = { kind := .func, size := 1, bytes := 8, zero := [.nilFunc], offs := [], fts := [] } := by kernel_rfl
@[simp] theorem ty196 : tyI Tryz.prog 196 = { kind := .func, size := 1, bytes := 8, zero := [.nilFunc], offs := [], fts := [] } := by kernel_rfl
@[simp] theorem ty197 : tyI Tryz.prog 197 = { kind := .int .u32, size := 1, bytes := 4, zero := [.int .u32 0], offs := [], fts := [] } := by kernel_rfl
@[simp] theorem ty199 : tyI Tryz.prog 199 = { kind := .func, size := 1, bytes := 8, zero := [.nilFunc], offs := [], fts := [] } := by kernel_rfl
@[simp] theorem ty200 : tyI Tryz.prog 200 = { kind := .struct, size := 4, bytes := 40, zero := [.pointer none, .pointer none, .pointer none, .string .empty], offs := [0, 1, 2, 3], fts := [17, 17, 17, 9] } := by kernel_rfl
@[simp] theorem ty201 : tyI Tryz.prog 201 = { kind := .struct, size := 4, bytes := 40, zero := [.pointer none, .pointer none, .pointer none, .string .empty], offs := [0, 1, 2, 3], fts := [17, 17, 17, 9] } := by kernel_rfl
@[simp] theorem ty202 : tyI Tryz.prog 202 = { kind := .array 0 16, size := 0, bytes := 0, zero := [], offs := [], fts := [] } := by kernel_rfl
@[simp] theorem ty203 : tyI Tryz.prog 203 = { kind := .struct, size := 0, bytes := 0, zero := [], offs := [], fts := [202] } := by kernel_rfl
@[simp] theorem ty204 : tyI Tryz.prog 204 = { kind := .struct, size := 0, bytes := 0, zero := [], offs := [], fts := [202] } := by kernel_rfl
@[simp] theorem ty205 : tyI Tryz.prog 205 = { kind := .func, size := 1, bytes := 8, zero := [.nilFunc], offs := [], fts := [] } := by kernel_rfl
@[simp] theorem ty206 : tyI Tryz.prog 206 = { kind := .int .u8, size := 1, bytes := 1, zero := [.int .u8 0], offs := [], fts := [] } := by kernel_rfl
@[simp] theorem ty207 : tyI Tryz.prog 207 = { kind := .func, size := 1, bytes := 8, zero := [.nilFunc], offs := [], fts := [] } := by kernel_rfl
@[simp] theorem ty208 : tyI Tryz.prog 208 = { kind := .ptr 5, size := 1, bytes := 8, zero := [.pointer none], offs := [], fts := [] } := by kernel_rfl
@[simp] theorem ty209 : tyI Tryz.prog 209 = { kind := .int .i32, size := 1, bytes := 4, zero := [.int .i32 0], offs := [], fts := [] } := by kernel_rfl
@[simp] theorem ty210 : tyI Tryz.prog 210 = { kind := .int .i32, size := 1, bytes := 4, zero := [.int .i32 0], offs := [], fts := [] } := by kernel_rfl
@[simp] theorem ty211 : tyI Tryz.prog 211 = { kind := .struct, size := 11, bytes := 48, zero := [.int .u64 0, .int .u64 0, .int .u32 0, .int .u8 0, .int .u8 0, .int .u8 0, .int .u8 0, .nilFunc, .pointer none, .int .i32 0, .int .i32 0], offs := [0, 1, 2, 3, 4, 5, 6, 7, 8, 9, 10], fts := [12, 12, 197, 206, 5, 5, 142, 207, 208, 209, 210] } := by kernel_rfl
@[simp] theorem ty212 : tyI Tryz.prog 212 = { kind := .struct, size := 11, bytes := 48, zero := [.int .u64 0, .int .u64 0, .int .u32 0, .int .u8 0, .int .u8 0, .int .u8 0, .int .u8 0, .nilFunc, .pointer none, .int .i32 0, .int .i32 0], offs := [0, 1, 2, 3, 4, 5, 6, 7, 8, 9, 10], fts := [12, 12, 197, 206, 5, 5, 142, 207, 208, 209, 210] } := by kernel_rfl
@[simp] theorem ty213 : tyI Tryz.prog 213 = { kind := .func, size := 1, bytes := 8, zero := [.nilFunc], offs := [], fts := [] } := by kernel_rfl
@[simp] theorem ty214 : tyI Tryz.prog 214 = { kind := .func, size := 1, bytes := 8, zero := [.nilFunc], offs := [], fts := [] } := by kernel_rfl
@[simp] theorem ty215 : tyI Tryz.prog 215 = { kind := .struct, size := 2, bytes := 24, zero := [.string .empty, .int .u8 0], offs := [0, 1], fts := [9, 142] } := by kernel_rfl
@[simp] theorem ty216 : tyI Tryz.prog 216 = { kind := .struct, size := 2, bytes := 24, zero := [.string .empty, .int .u8 0], offs := [0, 1], fts := [9, 142] } := by kernel_rfl
@[simp] theorem ty217 : tyI Tryz.prog 217 = { kind := .ptr 221, size := 1, bytes := 8, zero := [.pointer none], offs := [], fts := [] } := by kernel_rfl
@[simp] theorem ty218 : tyI Tryz.prog 218 = { kind := .func, size := 1, bytes := 8, zero := [.nilFunc], offs := [], fts := [] } := by kernel_rfl
@[simp] theorem ty219 : tyI Tryz.prog 219 = { kind := .int .u16, size := 1, bytes := 2, zero := [.int .u16 0], offs := [], fts := [] } := by kernel_rfl
@[simp] theorem ty220 : tyI Tryz.prog 220 = { kind := .struct, size := 5, bytes := 16, zero := [.int .i32 0, .int .u16 0, .int .u16 0, .int .u32 0, .int .u32 0], offs := [0, 1, 2, 3, 4], fts := [209, 219, 219, 197, 197] } := by kernel_rfl
@[simp] theorem ty221 : tyI Tryz.prog 221 = { kind := .struct, size := 5, bytes := 16, zero := [.int .i32 0, .int .u16 0, .int .u16 0, .int .u32 0, .int .u32 0], offs := [0, 1, 2, 3, 4], fts := [209, 219, 219, 197, 197] } := by kernel_rfl
@[simp] theorem ty222 : tyI Tryz.prog 222 = { kind := .slice 225, size := 1, bytes := 24, zero := [.slice none 0 0], offs := [], fts := [] } := by kernel_rfl
@[simp] theorem ty223 : tyI Tryz.prog 223 = { kind := .int .i32, size := 1, bytes := 4, zero := [.int .i32 0], offs := [], fts := [] } := by kernel_rfl
@[simp] theorem ty224 : tyI Tryz.prog 224 = { kind := .struct, size := 4, bytes := 16, zero := [.int .i32 0, .int .i32 0, .int .i32 0, .int .i32 0], offs := [0, 1, 2, 3], fts := [209, 210, 223, 223] } := by kernel_rfl
@[simp] theorem ty225 : tyI Tryz.prog 225 = { kind := .struct, size := 4, bytes := 16, zero := [.int .i32 0, .int .i32 0, .int .i32 0, .int .i32 0], offs := [0, 1, 2, 3], fts := [209, 210, 223, 223] } := by kernel_rfl
@[simp] theorem ty226 : tyI Tryz.prog 226 = { kind := .ptr 32, size := 1, bytes := 8, zero := [.pointer none], offs := [], fts := [] } := by kernel_rfl
@[simp] theorem zv3 : zeroV Tryz.prog 3 = some (.int .i64 0) := by kernel_rfl
@[simp] theorem fn3 : okFn Tryz.prog 3 := by unfold okFn; kernel_rfl
@[simp] theorem fn4 : okFn Tryz.prog 4 := by unfold okFn; kernel_rfl
@[simp] theorem fn5 : okFn Tryz.prog 5 := by unfold okFn; kernel_rfl
@[simp] theorem fn6 : okFn Tryz.prog 6 := by unfold okFn; kernel_rfl
@[simp] theorem fn7 : okFn Tryz.prog 7 := by unfold okFn; kernel_rfl
@[simp] theorem fn8 : okFn Tryz.prog 8 := by unfold okFn; kernel_rfl
@[simp] theorem fn9 : okFn Tryz.prog 9 := by unfold okFn; kernel_rfl
@[simp] theorem fn10 : okFn Tryz.prog 10 := by unfold okFn; kernel_rfl
@[simp] theorem fn11 : okFn Tryz.prog 11 := by unfold okFn; kernel_rfl
@[simp] theorem fn12 : okFn Tryz.prog 12 := by unfold okFn; kernel_rfl
@[simp] theorem fn13 : okFn Tryz.prog 13 := by unfold okFn; kernel_rfl
@[simp] theorem fn14 : okFn Tryz.prog 14 := by unfold okFn; kernel_rfl
@[simp] theorem fn15 : okFn Tryz.prog 15 := by unfold okFn; kernel_rfl
@[simp] theorem fn16 : okFn Tryz.prog 16 := by unfold okFn; kernel_rfl
@[simp] theorem fn17 : okFn Tryz.prog 17 := by unfold okFn; kernel_rfl
@[simp] theorem fn18 : okFn Tryz.prog 18 := by unfold okFn; kernel_rfl
@[simp] theorem fn19 : okFn Tryz.prog 19 := by unfold okFn; kernel_rfl
@[simp] theorem fn20 : okFn Tryz.prog 20 := by unfold okFn; kernel_rfl
@[simp] theorem fn21 : okFn Tryz.prog 21 := by unfold okFn; kernel_rfl
@[simp] theorem fn22 : okFn Tryz.prog 22 := by unfold okFn; kernel_rfl
@[simp] theorem fn23 : okFn Tryz.prog 23 := by unfold okFn; kernel_rfl
@[simp] theorem fn24 : okFn Tryz.prog 24 := by unfold okFn; kernel_rfl
@[simp] theorem fn25 : okFn Tryz.prog 25 := by unfold okFn; kernel_rfl
@[simp] theorem fn26 : okFn Tryz.prog 26 := by unfold okFn; kernel_rfl
@[simp] theorem fn27 : okFn Tryz.prog 27 := by unfold okFn; kernel_rfl
@[simp] theorem fn28 : okFn Tryz.prog 28 := by unfold okFn; kernel_rfl
@[simp] theorem fn29 : okFn Tryz.prog 29 := by unfold okFn; kernel_rfl
@[simp] theorem fn30 : okFn Tryz.prog 30 := by unfold okFn; kernel_rfl
@[simp] theorem fn31 : okFn Tryz.prog 31 := by unfold okFn; kernel_rfl
@[simp] theorem fn32 : okFn Tryz.prog 32 := by unfold okFn; kernel_rfl
@[simp] theorem fn33 : okFn Tryz.prog 33 := by unfold okFn; kernel_rfl
@[simp] theorem fn34 : okFn Tryz.prog 34 := by unfold okFn; kernel_rfl
@[simp] theorem fn35 : okFn Tryz.prog 35 := by unfold okFn; kernel_rfl
@[simp] theorem fn36 : okFn Tryz.prog 36 := by unfold okFn; kernel_rfl
@[simp] theorem fn37 : okFn Tryz.prog 37 := by unfold okFn; kernel_rfl
@[simp] theorem fn38 : okFn Tryz.prog 38 := by unfold okFn; kernel_rfl
@[simp] theorem fn39 : okFn Tryz.prog 39 := by unfold okFn; kernel_rfl
@[simp] theorem fn40 : okFn Tryz.prog 40 := by unfold okFn; kernel_rfl
@[simp] theorem fn41 : okFn Tryz.prog 41 := by unfold okFn; kernel_rfl
@[simp] theorem fn42 : okFn Tryz.prog 42 := by unfold okFn; kernel_rfl
@[simp] theorem fn43 : okFn Tryz.prog 43 := by unfold okFn; kernel_rfl
@[simp] theorem fn44 : okFn Tryz.prog 44 := by unfold okFn; kernel_rfl
@[simp] theorem fn45 : okFn Tryz.prog 45 := by unfold okFn; kernel_rfl
@[simp] theorem fn46 : okFn Tryz.prog 46 := by unfold okFn; kernel_rfl
@[simp] theorem fn47 : okFn Tryz.prog 47 := by unfold okFn; kernel_rfl
@[simp] theorem fn48 : okFn Tryz.prog 48 := by unfold okFn; kernel_rfl
@[simp] theorem fn49 : okFn Tryz.prog 49 := by unfold okFn; kernel_rfl
@[simp] theorem fn50 : okFn Tryz.prog 50 := by unfold okFn; kernel_rfl
@[simp] theorem fn51 : okFn Tryz.prog 51 := by unfold okFn; kernel_rfl
@[simp] theorem fn52 : okFn Tryz.prog 52 := by unfold okFn; kernel_rfl
@[simp] theorem fn53 : okFn Tryz.prog 53 := by unfold okFn; kernel_rfl
@[simp] theorem fn54 : okFn Tryz.prog 54 := by unfold okFn; kernel_rfl
@[simp] theorem fn55 : okFn Tryz.prog 55 := by unfold okFn; kernel_rfl
@[simp] theorem fn56 : okFn Tryz.prog 56 := by unfold okFn; kernel_rfl
@[simp] theorem fn57 : okFn Tryz.prog 57 := by unfold okFn; kernel_rfl
@[simp] theorem fn58 : okFn Tryz.prog 58 := by unfold okFn; kernel_rfl
@[simp] theorem fn59 : okFn Tryz.prog 59 := by unfold okFn; kernel_rfl
@[simp] theorem fn60 : okFn Tryz.prog 60 := by unfold okFn; kernel_rfl
@[simp] theorem fn61 : okFn Tryz.prog 61 := by unfold okFn; kernel_rfl
@[simp] theorem fn65 : okFn Tryz.prog 65 := by unfold okFn; kernel_rfl
@[simp] theorem fn66 : okFn Tryz.prog 66 := by unfold okFn; kernel_rfl
@[simp] theorem fn67 : okFn Tryz.prog 67 := by unfold okFn; kernel_rfl
@[simp] theorem fn68 : okFn Tryz.prog 68 := by unfold okFn; kernel_rfl
@[simp] theorem fn69 : okFn Tryz.prog 69 := by unfold okFn; kernel_rfl
@[simp] theorem fn70 : okFn Tryz.prog 70 := by unfold okFn; kernel_rfl
@[simp] theorem fn71 : okFn Tryz.prog 71 := by unfold okFn; kernel_rfl
@[simp] theorem fn72 : okFn Tryz.prog 72 := by unfold okFn; kernel_rfl
@[simp] theorem fn73 : okFn Tryz.prog 73 := by unfold okFn; kernel_rfl
@[simp] theorem fn74 : okFn Tryz.prog 74 := by unfold okFn; kernel_rfl
@[simp] theorem fn75 : okFn Tryz.prog 75 := by unfold okFn; kernel_rfl
@[simp] theorem fn76 : okFn Tryz.prog 76 := by unfold okFn; kernel_rfl
@[simp] theorem fn77 : okFn Tryz.prog 77 := by unfold okFn; kernel_rfl
@[simp] theorem fn78 : okFn Tryz.prog 78 := by unfold okFn; kernel_rfl
@[simp] theorem fn82 : okFn Tryz.prog 82 := by unfold okFn; kernel_rfl
@[simp] theorem fn83 : okFn Tryz.prog 83 := by unfold okFn; kernel_rfl
@[simp] theorem fn84 : okFn Tryz.prog 84 := by unfold okFn; kernel_rfl
@[simp] theorem fn85 : okFn Tryz.prog 85 := by unfold okFn; kernel_rfl
@[simp] theorem fn86 : okFn Tryz.prog 86 := by unfold okFn; kernel_rfl
@[simp] theorem fn87 : okFn Tryz.prog 87 := by unfold okFn; kernel_rfl
@[simp] theorem fn88 : okFn Tryz.prog 88 := by unfold okFn; kernel_rfl
@[simp] theorem fn89 : okFn Tryz.prog 89 := by unfold okFn; kernel_rfl
@[simp] theorem fn90 : okFn Tryz.prog 90 := by unfold okFn; kernel_rfl
@[simp] theorem fn91 : okFn Tryz.prog 91 := by unfold okFn; kernel_rfl
@[simp] theorem fn92 : okFn Tryz.prog 92 := by unfold okFn; kernel_rfl
@[simp] theorem fn93 : okFn Tryz.prog 93 := by unfold okFn; kernel_rfl
@[simp] theorem fn94 : okFn Tryz.prog 94 := by unfold okFn; kernel_rfl
@[simp] theorem fn95 : okFn Tryz.prog 95 := by unfold okFn; kernel_rfl
@[simp] theorem fn96 : okFn Tryz.prog 96 := by unfold okFn; kernel_rfl
@[simp] theorem fn97 : okFn Tryz.prog 97 := by unfold okFn; kernel_rfl
@[simp] theorem fn98 : okFn Tryz.prog 98 := by unfold okFn; kernel_rfl
@[simp] theorem fn99 : okFn Tryz.prog 99 := by unfold okFn; kernel_rfl
@[simp] theorem fn100 : okFn Tryz.prog 100 := by unfold okFn; kernel_rfl
@[simp] theorem fn101 : okFn Tryz.prog 101 := by unfold okFn; kernel_rfl
@[simp] theorem fn102 : okFn Tryz.prog 102 := by unfold okFn; kernel_rfl
@[simp] theorem fn103 : okFn Tryz.prog 103 := by unfold okFn; kernel_rfl
@[simp] theorem fn104 : okFn Tryz.prog 104 := by unfold okFn; kernel_rfl
@[simp] theorem fn106 : okFn Tryz.prog 106 := by unfold okFn; kernel_rfl
@[simp] theorem fn107 : okFn Tryz.prog 107 := by unfold okFn; kernel_rfl
@[simp] theorem fn109 : okFn Tryz.prog 109 := by unfold okFn; kernel_rfl
@[simp] theorem fn147 : okFn Tryz.prog 147 := by unfold okFn; kernel_rfl
end Go.Proofs.YtjhnabdcmfjeoaaGreatDoor.Ab
