/-
  A part of a verified evaluator of the model's code, or of its use at this seat; see the text YtkibpfkengpimaaGreatDoorEvCard.
-/
import Derived.Test.YtkibpfkengpimaaGreatDoorProg
import Derived.Test.YtkibpfkengpimaaGreatDoorEvSeat
set_option maxRecDepth 100000
noncomputable section
namespace Go.Proofs.YtkibpfkengpimaaGreatDoor
open Go.Ev
noncomputable def ti1 : TI := ⟨.func, 1, 8, [.nilFunc], none⟩
noncomputable def ti2 : TI := ⟨(.int .i64), 1, 8, [.int .i64 (.ofNat 0)], some [.int .i64]⟩
noncomputable def ti3 : TI := ⟨(.int .i64), 1, 8, [.int .i64 (.ofNat 0)], some [.int .i64]⟩
noncomputable def ti4 : TI := ⟨.bool, 1, 1, [.bool false], some [.bool]⟩
noncomputable def ti5 : TI := ⟨(.int .u8), 1, 1, [.int .u8 (.ofNat 0)], some [.int .u8]⟩
noncomputable def ti6 : TI := ⟨(.int .u8), 1, 1, [.int .u8 (.ofNat 0)], some [.int .u8]⟩
noncomputable def ti7 : TI := ⟨(.struct [(0, 2), (1, 3), (2, 4), (3, 6)]), 4, 24, [.int .i64 (.ofNat 0), .int .i64 (.ofNat 0), .bool false, .int .u8 (.ofNat 0)], some [.int .i64, .int .i64, .bool, .int .u8]⟩
noncomputable def ti8 : TI := ⟨(.struct [(0, 2), (1, 3), (2, 4), (3, 6)]), 4, 24, [.int .i64 (.ofNat 0), .int .i64 (.ofNat 0), .bool false, .int .u8 (.ofNat 0)], some [.int .i64, .int .i64, .bool, .int .u8]⟩
noncomputable def ti9 : TI := ⟨.str, 1, 16, [.str []], some [.str]⟩
noncomputable def ti10 : TI := ⟨.str, 1, 16, [.str []], some [.str]⟩
noncomputable def ti11 : TI := ⟨.str, 1, 16, [.str []], some [.str]⟩
noncomputable def ti12 : TI := ⟨(.int .u64), 1, 8, [.int .u64 (.ofNat 0)], some [.int .u64]⟩
noncomputable def ti13 : TI := ⟨(.struct [(0, 9), (1, 12)]), 2, 24, [.str [], .int .u64 (.ofNat 0)], none⟩
noncomputable def ti14 : TI := ⟨(.struct [(0, 9), (1, 12)]), 2, 24, [.str [], .int .u64 (.ofNat 0)], none⟩
noncomputable def ti15 : TI := ⟨(.ptr 380), 1, 8, [.nilPtr], none⟩
noncomputable def ti16 : TI := ⟨(.ptr 383), 1, 8, [.nilPtr], none⟩
noncomputable def ti17 : TI := ⟨(.ptr 390), 1, 8, [.nilPtr], none⟩
noncomputable def ti18 : TI := ⟨(.struct [(0, 17)]), 1, 8, [.nilPtr], none⟩
noncomputable def ti19 : TI := ⟨(.struct [(0, 17)]), 1, 8, [.nilPtr], none⟩
noncomputable def ti20 : TI := ⟨.iface, 1, 16, [.nilIface], none⟩
noncomputable def ti21 : TI := ⟨(.int .i32), 1, 4, [.int .i32 (.ofNat 0)], some [.int .i32]⟩
noncomputable def ti22 : TI := ⟨.func, 1, 8, [.nilFunc], none⟩
noncomputable def ti23 : TI := ⟨(.ptr 26), 1, 8, [.nilPtr], none⟩
noncomputable def ti24 : TI := ⟨(.slice 5), 1, 24, [.nilSlice], none⟩
noncomputable def ti25 : TI := ⟨(.struct [(0, 24), (1, 3)]), 2, 32, [.nilSlice, .int .i64 (.ofNat 0)], none⟩
noncomputable def ti26 : TI := ⟨(.struct [(0, 24), (1, 3)]), 2, 32, [.nilSlice, .int .i64 (.ofNat 0)], none⟩
noncomputable def ti27 : TI := ⟨(.ptr 80), 1, 8, [.nilPtr], none⟩
noncomputable def ti28 : TI := ⟨(.int .i64), 1, 8, [.int .i64 (.ofNat 0)], some [.int .i64]⟩
noncomputable def ti30 : TI := ⟨.func, 1, 8, [.nilFunc], none⟩
noncomputable def ti31 : TI := ⟨(.slice 84), 1, 24, [.nilSlice], none⟩
noncomputable def ti32 : TI := ⟨(.struct [(0, 3), (1, 3), (2, 3), (3, 3), (4, 3), (5, 31)]), 6, 64, [.int .i64 (.ofNat 0), .int .i64 (.ofNat 0), .int .i64 (.ofNat 0), .int .i64 (.ofNat 0), .int .i64 (.ofNat 0), .nilSlice], none⟩
noncomputable def ti33 : TI := ⟨(.struct [(0, 3), (1, 3), (2, 3), (3, 3), (4, 3), (5, 31)]), 6, 64, [.int .i64 (.ofNat 0), .int .i64 (.ofNat 0), .int .i64 (.ofNat 0), .int .i64 (.ofNat 0), .int .i64 (.ofNat 0), .nilSlice], none⟩
noncomputable def ti34 : TI := ⟨(.struct [(0, 33), (6, 3)]), 7, 72, [.int .i64 (.ofNat 0), .int .i64 (.ofNat 0), .int .i64 (.ofNat 0), .int .i64 (.ofNat 0), .int .i64 (.ofNat 0), .nilSlice, .int .i64 (.ofNat 0)], none⟩
noncomputable def ti35 : TI := ⟨(.struct [(0, 33), (6, 3)]), 7, 72, [.int .i64 (.ofNat 0), .int .i64 (.ofNat 0), .int .i64 (.ofNat 0), .int .i64 (.ofNat 0), .int .i64 (.ofNat 0), .nilSlice, .int .i64 (.ofNat 0)], none⟩
noncomputable def ti36 : TI := ⟨(.slice 3), 1, 24, [.nilSlice], none⟩
noncomputable def ti37 : TI := ⟨(.struct [(0, 3), (1, 3), (2, 3), (3, 36)]), 4, 48, [.int .i64 (.ofNat 0), .int .i64 (.ofNat 0), .int .i64 (.ofNat 0), .nilSlice], none⟩
noncomputable def ti38 : TI := ⟨(.struct [(0, 3), (1, 3), (2, 3), (3, 36)]), 4, 48, [.int .i64 (.ofNat 0), .int .i64 (.ofNat 0), .int .i64 (.ofNat 0), .nilSlice], none⟩
noncomputable def ti40 : TI := ⟨.func, 1, 8, [.nilFunc], none⟩
noncomputable def ti41 : TI := ⟨.func, 1, 8, [.nilFunc], none⟩
noncomputable def ti42 : TI := ⟨.func, 1, 8, [.nilFunc], none⟩
noncomputable def ti43 : TI := ⟨.func, 1, 8, [.nilFunc], none⟩
noncomputable def ti45 : TI := ⟨.func, 1, 8, [.nilFunc], none⟩
noncomputable def ti46 : TI := ⟨.func, 1, 8, [.nilFunc], none⟩
noncomputable def ti47 : TI := ⟨(.struct [(0, 5), (1, 5), (2, 5), (3, 5)]), 4, 4, [.int .u8 (.ofNat 0), .int .u8 (.ofNat 0), .int .u8 (.ofNat 0), .int .u8 (.ofNat 0)], some [.int .u8, .int .u8, .int .u8, .int .u8]⟩
noncomputable def ti48 : TI := ⟨(.struct [(0, 5), (1, 5), (2, 5), (3, 5)]), 4, 4, [.int .u8 (.ofNat 0), .int .u8 (.ofNat 0), .int .u8 (.ofNat 0), .int .u8 (.ofNat 0)], some [.int .u8, .int .u8, .int .u8, .int .u8]⟩
noncomputable def ti49 : TI := ⟨(.struct [(0, 48), (4, 3), (5, 3)]), 6, 24, [.int .u8 (.ofNat 0), .int .u8 (.ofNat 0), .int .u8 (.ofNat 0), .int .u8 (.ofNat 0), .int .i64 (.ofNat 0), .int .i64 (.ofNat 0)], some [.int .u8, .int .u8, .int .u8, .int .u8, .int .i64, .int .i64]⟩
noncomputable def ti50 : TI := ⟨(.struct [(0, 48), (4, 3), (5, 3)]), 6, 24, [.int .u8 (.ofNat 0), .int .u8 (.ofNat 0), .int .u8 (.ofNat 0), .int .u8 (.ofNat 0), .int .i64 (.ofNat 0), .int .i64 (.ofNat 0)], some [.int .u8, .int .u8, .int .u8, .int .u8, .int .i64, .int .i64]⟩
noncomputable def ti51 : TI := ⟨(.arr 4 50), 24, 96, [.int .u8 (.ofNat 0), .int .u8 (.ofNat 0), .int .u8 (.ofNat 0), .int .u8 (.ofNat 0), .int .i64 (.ofNat 0), .int .i64 (.ofNat 0), .int .u8 (.ofNat 0), .int .u8 (.ofNat 0), .int .u8 (.ofNat 0), .int .u8 (.ofNat 0), .int .i64 (.ofNat 0), .int .i64 (.ofNat 0), .int .u8 (.ofNat 0), .int .u8 (.ofNat 0), .int .u8 (.ofNat 0), .int .u8 (.ofNat 0), .int .i64 (.ofNat 0), .int .i64 (.ofNat 0), .int .u8 (.ofNat 0), .int .u8 (.ofNat 0), .int .u8 (.ofNat 0), .int .u8 (.ofNat 0), .int .i64 (.ofNat 0), .int .i64 (.ofNat 0)], some [.int .u8, .int .u8, .int .u8, .int .u8, .int .i64, .int .i64, .int .u8, .int .u8, .int .u8, .int .u8, .int .i64, .int .i64, .int .u8, .int .u8, .int .u8, .int .u8, .int .i64, .int .i64, .int .u8, .int .u8, .int .u8, .int .u8, .int .i64, .int .i64]⟩
noncomputable def ti52 : TI := ⟨(.arr 2 3), 2, 16, [.int .i64 (.ofNat 0), .int .i64 (.ofNat 0)], some [.int .i64, .int .i64]⟩
noncomputable def ti53 : TI := ⟨(.struct [(0, 3), (1, 3), (2, 3), (3, 3), (4, 5), (5, 5), (6, 4), (7, 51), (31, 52)]), 33, 152, [.int .i64 (.ofNat 0), .int .i64 (.ofNat 0), .int .i64 (.ofNat 0), .int .i64 (.ofNat 0), .int .u8 (.ofNat 0), .int .u8 (.ofNat 0), .bool false, .int .u8 (.ofNat 0), .int .u8 (.ofNat 0), .int .u8 (.ofNat 0), .int .u8 (.ofNat 0), .int .i64 (.ofNat 0), .int .i64 (.ofNat 0), .int .u8 (.ofNat 0), .int .u8 (.ofNat 0), .int .u8 (.ofNat 0), .int .u8 (.ofNat 0), .int .i64 (.ofNat 0), .int .i64 (.ofNat 0), .int .u8 (.ofNat 0), .int .u8 (.ofNat 0), .int .u8 (.ofNat 0), .int .u8 (.ofNat 0), .int .i64 (.ofNat 0), .int .i64 (.ofNat 0), .int .u8 (.ofNat 0), .int .u8 (.ofNat 0), .int .u8 (.ofNat 0), .int .u8 (.ofNat 0), .int .i64 (.ofNat 0), .int .i64 (.ofNat 0), .int .i64 (.ofNat 0), .int .i64 (.ofNat 0)], some [.int .i64, .int .i64, .int .i64, .int .i64, .int .u8, .int .u8, .bool, .int .u8, .int .u8, .int .u8, .int .u8, .int .i64, .int .i64, .int .u8, .int .u8, .int .u8, .int .u8, .int .i64, .int .i64, .int .u8, .int .u8, .int .u8, .int .u8, .int .i64, .int .i64, .int .u8, .int .u8, .int .u8, .int .u8, .int .i64, .int .i64, .int .i64, .int .i64]⟩
noncomputable def ti54 : TI := ⟨(.struct [(0, 3), (1, 3), (2, 3), (3, 3), (4, 5), (5, 5), (6, 4), (7, 51), (31, 52)]), 33, 152, [.int .i64 (.ofNat 0), .int .i64 (.ofNat 0), .int .i64 (.ofNat 0), .int .i64 (.ofNat 0), .int .u8 (.ofNat 0), .int .u8 (.ofNat 0), .bool false, .int .u8 (.ofNat 0), .int .u8 (.ofNat 0), .int .u8 (.ofNat 0), .int .u8 (.ofNat 0), .int .i64 (.ofNat 0), .int .i64 (.ofNat 0), .int .u8 (.ofNat 0), .int .u8 (.ofNat 0), .int .u8 (.ofNat 0), .int .u8 (.ofNat 0), .int .i64 (.ofNat 0), .int .i64 (.ofNat 0), .int .u8 (.ofNat 0), .int .u8 (.ofNat 0), .int .u8 (.ofNat 0), .int .u8 (.ofNat 0), .int .i64 (.ofNat 0), .int .i64 (.ofNat 0), .int .u8 (.ofNat 0), .int .u8 (.ofNat 0), .int .u8 (.ofNat 0), .int .u8 (.ofNat 0), .int .i64 (.ofNat 0), .int .i64 (.ofNat 0), .int .i64 (.ofNat 0), .int .i64 (.ofNat 0)], some [.int .i64, .int .i64, .int .i64, .int .i64, .int .u8, .int .u8, .bool, .int .u8, .int .u8, .int .u8, .int .u8, .int .i64, .int .i64, .int .u8, .int .u8, .int .u8, .int .u8, .int .i64, .int .i64, .int .u8, .int .u8, .int .u8, .int .u8, .int .i64, .int .i64, .int .u8, .int .u8, .int .u8, .int .u8, .int .i64, .int .i64, .int .i64, .int .i64]⟩
noncomputable def ti55 : TI := ⟨.func, 1, 8, [.nilFunc], none⟩
noncomputable def ti56 : TI := ⟨(.struct [(0, 3), (1, 3), (2, 3), (3, 3)]), 4, 32, [.int .i64 (.ofNat 0), .int .i64 (.ofNat 0), .int .i64 (.ofNat 0), .int .i64 (.ofNat 0)], some [.int .i64, .int .i64, .int .i64, .int .i64]⟩
noncomputable def ti57 : TI := ⟨(.struct [(0, 3), (1, 3), (2, 3), (3, 3)]), 4, 32, [.int .i64 (.ofNat 0), .int .i64 (.ofNat 0), .int .i64 (.ofNat 0), .int .i64 (.ofNat 0)], some [.int .i64, .int .i64, .int .i64, .int .i64]⟩
noncomputable def ti58 : TI := ⟨(.slice 54), 1, 24, [.nilSlice], none⟩
noncomputable def ti60 : TI := ⟨.func, 1, 8, [.nilFunc], none⟩
noncomputable def ti61 : TI := ⟨(.slice 57), 1, 24, [.nilSlice], none⟩
noncomputable def ti63 : TI := ⟨.func, 1, 8, [.nilFunc], none⟩
noncomputable def ti64 : TI := ⟨(.struct [(0, 3), (1, 58)]), 2, 32, [.int .i64 (.ofNat 0), .nilSlice], none⟩
noncomputable def ti65 : TI := ⟨(.struct [(0, 3), (1, 58)]), 2, 32, [.int .i64 (.ofNat 0), .nilSlice], none⟩
noncomputable def ti67 : TI := ⟨.func, 1, 8, [.nilFunc], none⟩
noncomputable def ti68 : TI := ⟨(.slice 9), 1, 24, [.nilSlice], none⟩
noncomputable def ti69 : TI := ⟨.func, 1, 8, [.nilFunc], none⟩
noncomputable def ti70 : TI := ⟨.func, 1, 8, [.nilFunc], none⟩
noncomputable def ti72 : TI := ⟨.func, 1, 8, [.nilFunc], none⟩
noncomputable def ti73 : TI := ⟨.func, 1, 8, [.nilFunc], none⟩
noncomputable def ti74 : TI := ⟨(.ptr 121), 1, 8, [.nilPtr], none⟩
noncomputable def ti76 : TI := ⟨.func, 1, 8, [.nilFunc], none⟩
noncomputable def ti77 : TI := ⟨.func, 1, 8, [.nilFunc], none⟩
noncomputable def ti78 : TI := ⟨(.map 9 90), 1, 8, [.nilMap], none⟩
noncomputable def ti79 : TI := ⟨(.struct [(0, 74), (1, 78)]), 2, 16, [.nilPtr, .nilMap], none⟩
noncomputable def ti80 : TI := ⟨(.struct [(0, 74), (1, 78)]), 2, 16, [.nilPtr, .nilMap], none⟩
noncomputable def ti81 : TI := ⟨(.struct [(0, 27), (1, 9), (2, 35), (9, 38), (13, 3), (14, 3)]), 15, 160, [.nilPtr, .str [], .int .i64 (.ofNat 0), .int .i64 (.ofNat 0), .int .i64 (.ofNat 0), .int .i64 (.ofNat 0), .int .i64 (.ofNat 0), .nilSlice, .int .i64 (.ofNat 0), .int .i64 (.ofNat 0), .int .i64 (.ofNat 0), .int .i64 (.ofNat 0), .nilSlice, .int .i64 (.ofNat 0), .int .i64 (.ofNat 0)], none⟩
noncomputable def ti82 : TI := ⟨(.struct [(0, 27), (1, 9), (2, 35), (9, 38), (13, 3), (14, 3)]), 15, 160, [.nilPtr, .str [], .int .i64 (.ofNat 0), .int .i64 (.ofNat 0), .int .i64 (.ofNat 0), .int .i64 (.ofNat 0), .int .i64 (.ofNat 0), .nilSlice, .int .i64 (.ofNat 0), .int .i64 (.ofNat 0), .int .i64 (.ofNat 0), .int .i64 (.ofNat 0), .nilSlice, .int .i64 (.ofNat 0), .int .i64 (.ofNat 0)], none⟩
noncomputable def ti83 : TI := ⟨(.struct [(0, 3), (1, 3), (2, 3), (3, 3), (4, 3)]), 5, 40, [.int .i64 (.ofNat 0), .int .i64 (.ofNat 0), .int .i64 (.ofNat 0), .int .i64 (.ofNat 0), .int .i64 (.ofNat 0)], some [.int .i64, .int .i64, .int .i64, .int .i64, .int .i64]⟩
noncomputable def ti84 : TI := ⟨(.struct [(0, 3), (1, 3), (2, 3), (3, 3), (4, 3)]), 5, 40, [.int .i64 (.ofNat 0), .int .i64 (.ofNat 0), .int .i64 (.ofNat 0), .int .i64 (.ofNat 0), .int .i64 (.ofNat 0)], some [.int .i64, .int .i64, .int .i64, .int .i64, .int .i64]⟩
noncomputable def ti85 : TI := ⟨.func, 1, 8, [.nilFunc], none⟩
noncomputable def ti86 : TI := ⟨.func, 1, 8, [.nilFunc], none⟩
noncomputable def ti87 : TI := ⟨.func, 1, 8, [.nilFunc], none⟩
noncomputable def ti88 : TI := ⟨.func, 1, 8, [.nilFunc], none⟩
noncomputable def ti89 : TI := ⟨.func, 1, 8, [.nilFunc], none⟩
noncomputable def ti90 : TI := ⟨(.ptr 98), 1, 8, [.nilPtr], none⟩
noncomputable def ti92 : TI := ⟨.func, 1, 8, [.nilFunc], none⟩
noncomputable def ti93 : TI := ⟨.func, 1, 8, [.nilFunc], none⟩
noncomputable def ti94 : TI := ⟨.func, 1, 8, [.nilFunc], none⟩
noncomputable def ti95 : TI := ⟨.func, 1, 8, [.nilFunc], none⟩
noncomputable def ti96 : TI := ⟨(.map 54 4), 1, 8, [.nilMap], none⟩
noncomputable def ti97 : TI := ⟨(.struct [(0, 4), (1, 35), (8, 58), (9, 96), (10, 58), (11, 36), (12, 38), (16, 61)]), 17, 232, [.bool false, .int .i64 (.ofNat 0), .int .i64 (.ofNat 0), .int .i64 (.ofNat 0), .int .i64 (.ofNat 0), .int .i64 (.ofNat 0), .nilSlice, .int .i64 (.ofNat 0), .nilSlice, .nilMap, .nilSlice, .nilSlice, .int .i64 (.ofNat 0), .int .i64 (.ofNat 0), .int .i64 (.ofNat 0), .nilSlice, .nilSlice], none⟩
noncomputable def ti98 : TI := ⟨(.struct [(0, 4), (1, 35), (8, 58), (9, 96), (10, 58), (11, 36), (12, 38), (16, 61)]), 17, 232, [.bool false, .int .i64 (.ofNat 0), .int .i64 (.ofNat 0), .int .i64 (.ofNat 0), .int .i64 (.ofNat 0), .int .i64 (.ofNat 0), .nilSlice, .int .i64 (.ofNat 0), .nilSlice, .nilMap, .nilSlice, .nilSlice, .int .i64 (.ofNat 0), .int .i64 (.ofNat 0), .int .i64 (.ofNat 0), .nilSlice, .nilSlice], none⟩
noncomputable def ti100 : TI := ⟨.func, 1, 8, [.nilFunc], none⟩
noncomputable def ti101 : TI := ⟨.func, 1, 8, [.nilFunc], none⟩
noncomputable def ti103 : TI := ⟨.func, 1, 8, [.nilFunc], none⟩
noncomputable def ti104 : TI := ⟨.func, 1, 8, [.nilFunc], none⟩
noncomputable def ti105 : TI := ⟨.func, 1, 8, [.nilFunc], none⟩
noncomputable def ti106 : TI := ⟨.func, 1, 8, [.nilFunc], none⟩
noncomputable def ti107 : TI := ⟨.func, 1, 8, [.nilFunc], none⟩
noncomputable def ti108 : TI := ⟨.func, 1, 8, [.nilFunc], none⟩
noncomputable def ti109 : TI := ⟨.func, 1, 8, [.nilFunc], none⟩
noncomputable def ti110 : TI := ⟨.func, 1, 8, [.nilFunc], none⟩
noncomputable def ti111 : TI := ⟨.func, 1, 8, [.nilFunc], none⟩
noncomputable def ti112 : TI := ⟨.func, 1, 8, [.nilFunc], none⟩
noncomputable def ti113 : TI := ⟨.func, 1, 8, [.nilFunc], none⟩
noncomputable def ti114 : TI := ⟨.func, 1, 8, [.nilFunc], none⟩
noncomputable def ti115 : TI := ⟨.func, 1, 8, [.nilFunc], none⟩
noncomputable def ti117 : TI := ⟨.func, 1, 8, [.nilFunc], none⟩
noncomputable def ti118 : TI := ⟨.func, 1, 8, [.nilFunc], none⟩
noncomputable def ti119 : TI := ⟨.func, 1, 8, [.nilFunc], none⟩
noncomputable def ti120 : TI := ⟨(.struct [(0, 23), (1, 68), (2, 3), (3, 3), (4, 4), (5, 24)]), 6, 80, [.nilPtr, .nilSlice, .int .i64 (.ofNat 0), .int .i64 (.ofNat 0), .bool false, .nilSlice], none⟩
noncomputable def ti121 : TI := ⟨(.struct [(0, 23), (1, 68), (2, 3), (3, 3), (4, 4), (5, 24)]), 6, 80, [.nilPtr, .nilSlice, .int .i64 (.ofNat 0), .int .i64 (.ofNat 0), .bool false, .nilSlice], none⟩
noncomputable def ti122 : TI := ⟨.func, 1, 8, [.nilFunc], none⟩
noncomputable def ti123 : TI := ⟨.func, 1, 8, [.nilFunc], none⟩
noncomputable def ti124 : TI := ⟨.func, 1, 8, [.nilFunc], none⟩
noncomputable def ti125 : TI := ⟨.func, 1, 8, [.nilFunc], none⟩
noncomputable def ti126 : TI := ⟨(.ptr 82), 1, 8, [.nilPtr], none⟩
noncomputable def ti128 : TI := ⟨.func, 1, 8, [.nilFunc], none⟩
noncomputable def ti129 : TI := ⟨.func, 1, 8, [.nilFunc], none⟩
noncomputable def ti130 : TI := ⟨(.struct [(0, 9), (1, 4), (2, 129)]), 3, 32, [.str [], .bool false, .nilFunc], none⟩
noncomputable def ti131 : TI := ⟨(.struct [(0, 9), (1, 4), (2, 129)]), 3, 32, [.str [], .bool false, .nilFunc], none⟩
noncomputable def ti132 : TI := ⟨(.arr 7 131), 21, 224, [.str [], .bool false, .nilFunc, .str [], .bool false, .nilFunc, .str [], .bool false, .nilFunc, .str [], .bool false, .nilFunc, .str [], .bool false, .nilFunc, .str [], .bool false, .nilFunc, .str [], .bool false, .nilFunc], none⟩
noncomputable def ti133 : TI := ⟨.func, 1, 8, [.nilFunc], none⟩
noncomputable def ti134 : TI := ⟨.func, 1, 8, [.nilFunc], none⟩
noncomputable def ti135 : TI := ⟨.func, 1, 8, [.nilFunc], none⟩
noncomputable def ti136 : TI := ⟨.func, 1, 8, [.nilFunc], none⟩
noncomputable def ti137 : TI := ⟨.func, 1, 8, [.nilFunc], none⟩
noncomputable def ti138 : TI := ⟨.func, 1, 8, [.nilFunc], none⟩
noncomputable def ti139 : TI := ⟨.func, 1, 8, [.nilFunc], none⟩
noncomputable def ti140 : TI := ⟨(.arr 4 3), 4, 32, [.int .i64 (.ofNat 0), .int .i64 (.ofNat 0), .int .i64 (.ofNat 0), .int .i64 (.ofNat 0)], some [.int .i64, .int .i64, .int .i64, .int .i64]⟩
noncomputable def ti141 : TI := ⟨.func, 1, 8, [.nilFunc], none⟩
noncomputable def ti142 : TI := ⟨.func, 1, 8, [.nilFunc], none⟩
noncomputable def ti144 : TI := ⟨.func, 1, 8, [.nilFunc], none⟩
noncomputable def ti145 : TI := ⟨(.slice 50), 1, 24, [.nilSlice], none⟩
noncomputable def ti146 : TI := ⟨.func, 1, 8, [.nilFunc], none⟩
noncomputable def ti147 : TI := ⟨.func, 1, 8, [.nilFunc], none⟩
noncomputable def ti148 : TI := ⟨.func, 1, 8, [.nilFunc], none⟩
noncomputable def ti150 : TI := ⟨.func, 1, 8, [.nilFunc], none⟩
noncomputable def ti151 : TI := ⟨.func, 1, 8, [.nilFunc], none⟩
noncomputable def ti153 : TI := ⟨.func, 1, 8, [.nilFunc], none⟩
noncomputable def ti154 : TI := ⟨.func, 1, 8, [.nilFunc], none⟩
noncomputable def ti155 : TI := ⟨.func, 1, 8, [.nilFunc], none⟩
noncomputable def ti156 : TI := ⟨.func, 1, 8, [.nilFunc], none⟩
noncomputable def ti157 : TI := ⟨.func, 1, 8, [.nilFunc], none⟩
noncomputable def ti158 : TI := ⟨.func, 1, 8, [.nilFunc], none⟩
noncomputable def ti159 : TI := ⟨.func, 1, 8, [.nilFunc], none⟩
noncomputable def ti160 : TI := ⟨.func, 1, 8, [.nilFunc], none⟩
noncomputable def ti161 : TI := ⟨.func, 1, 8, [.nilFunc], none⟩
noncomputable def ti162 : TI := ⟨.func, 1, 8, [.nilFunc], none⟩
noncomputable def ti163 : TI := ⟨.func, 1, 8, [.nilFunc], none⟩
noncomputable def ti164 : TI := ⟨.func, 1, 8, [.nilFunc], none⟩
noncomputable def ti166 : TI := ⟨.func, 1, 8, [.nilFunc], none⟩
noncomputable def ti167 : TI := ⟨(.map 3 3), 1, 8, [.nilMap], none⟩
noncomputable def ti168 : TI := ⟨.func, 1, 8, [.nilFunc], none⟩
noncomputable def ti169 : TI := ⟨.func, 1, 8, [.nilFunc], none⟩
noncomputable def ti170 : TI := ⟨(.ptr 172), 1, 8, [.nilPtr], none⟩
noncomputable def ti171 : TI := ⟨(.struct [(0, 170), (1, 24)]), 2, 32, [.nilPtr, .nilSlice], none⟩
noncomputable def ti172 : TI := ⟨(.struct [(0, 170), (1, 24)]), 2, 32, [.nilPtr, .nilSlice], none⟩
noncomputable def ti173 : TI := ⟨.func, 1, 8, [.nilFunc], none⟩
noncomputable def ti174 : TI := ⟨.iface, 1, 16, [.nilIface], none⟩
noncomputable def ti175 : TI := ⟨.iface, 1, 16, [.nilIface], none⟩
noncomputable def ti177 : TI := ⟨.func, 1, 8, [.nilFunc], none⟩
noncomputable def ti178 : TI := ⟨.func, 1, 8, [.nilFunc], none⟩
noncomputable def ti179 : TI := ⟨.func, 1, 8, [.nilFunc], none⟩
noncomputable def ti180 : TI := ⟨(.arr 5 9), 5, 80, [.str [], .str [], .str [], .str [], .str []], some [.str, .str, .str, .str, .str]⟩
noncomputable def ti181 : TI := ⟨.func, 1, 8, [.nilFunc], none⟩
noncomputable def ti182 : TI := ⟨(.arr 5 3), 5, 40, [.int .i64 (.ofNat 0), .int .i64 (.ofNat 0), .int .i64 (.ofNat 0), .int .i64 (.ofNat 0), .int .i64 (.ofNat 0)], some [.int .i64, .int .i64, .int .i64, .int .i64, .int .i64]⟩
noncomputable def ti183 : TI := ⟨.func, 1, 8, [.nilFunc], none⟩
noncomputable def ti184 : TI := ⟨.func, 1, 8, [.nilFunc], none⟩
noncomputable def ti185 : TI := ⟨(.slice 195), 1, 24, [.nilSlice], none⟩
noncomputable def ti187 : TI := ⟨.func, 1, 8, [.nilFunc], none⟩
noncomputable def ti188 : TI := ⟨(.map 57 4), 1, 8, [.nilMap], none⟩
noncomputable def ti189 : TI := ⟨.func, 1, 8, [.nilFunc], none⟩
noncomputable def ti190 : TI := ⟨(.slice 192), 1, 24, [.nilSlice], none⟩
noncomputable def ti191 : TI := ⟨(.struct [(0, 3), (1, 3)]), 2, 16, [.int .i64 (.ofNat 0), .int .i64 (.ofNat 0)], some [.int .i64, .int .i64]⟩
noncomputable def ti192 : TI := ⟨(.struct [(0, 3), (1, 3)]), 2, 16, [.int .i64 (.ofNat 0), .int .i64 (.ofNat 0)], some [.int .i64, .int .i64]⟩
noncomputable def ti193 : TI := ⟨(.map 192 3), 1, 8, [.nilMap], none⟩
noncomputable def ti194 : TI := ⟨(.struct [(0, 190), (1, 3), (2, 193)]), 3, 40, [.nilSlice, .int .i64 (.ofNat 0), .nilMap], none⟩
noncomputable def ti195 : TI := ⟨(.struct [(0, 190), (1, 3), (2, 193)]), 3, 40, [.nilSlice, .int .i64 (.ofNat 0), .nilMap], none⟩
noncomputable def ti196 : TI := ⟨(.map 200 84), 1, 8, [.nilMap], none⟩
noncomputable def ti197 : TI := ⟨.func, 1, 8, [.nilFunc], none⟩
noncomputable def ti199 : TI := ⟨(.struct [(0, 3), (1, 3)]), 2, 16, [.int .i64 (.ofNat 0), .int .i64 (.ofNat 0)], some [.int .i64, .int .i64]⟩
noncomputable def ti200 : TI := ⟨(.struct [(0, 3), (1, 3)]), 2, 16, [.int .i64 (.ofNat 0), .int .i64 (.ofNat 0)], some [.int .i64, .int .i64]⟩
noncomputable def ti201 : TI := ⟨.func, 1, 8, [.nilFunc], none⟩
noncomputable def ti202 : TI := ⟨.func, 1, 8, [.nilFunc], none⟩
noncomputable def ti203 : TI := ⟨.func, 1, 8, [.nilFunc], none⟩
noncomputable def ti204 : TI := ⟨.func, 1, 8, [.nilFunc], none⟩
noncomputable def ti205 : TI := ⟨.func, 1, 8, [.nilFunc], none⟩
noncomputable def ti206 : TI := ⟨.func, 1, 8, [.nilFunc], none⟩
noncomputable def ti207 : TI := ⟨(.int .u64), 1, 8, [.int .u64 (.ofNat 0)], some [.int .u64]⟩
noncomputable def ti208 : TI := ⟨(.arr 33 3), 33, 264, [.int .i64 (.ofNat 0), .int .i64 (.ofNat 0), .int .i64 (.ofNat 0), .int .i64 (.ofNat 0), .int .i64 (.ofNat 0), .int .i64 (.ofNat 0), .int .i64 (.ofNat 0), .int .i64 (.ofNat 0), .int .i64 (.ofNat 0), .int .i64 (.ofNat 0), .int .i64 (.ofNat 0), .int .i64 (.ofNat 0), .int .i64 (.ofNat 0), .int .i64 (.ofNat 0), .int .i64 (.ofNat 0), .int .i64 (.ofNat 0), .int .i64 (.ofNat 0), .int .i64 (.ofNat 0), .int .i64 (.ofNat 0), .int .i64 (.ofNat 0), .int .i64 (.ofNat 0), .int .i64 (.ofNat 0), .int .i64 (.ofNat 0), .int .i64 (.ofNat 0), .int .i64 (.ofNat 0), .int .i64 (.ofNat 0), .int .i64 (.ofNat 0), .int .i64 (.ofNat 0), .int .i64 (.ofNat 0), .int .i64 (.ofNat 0), .int .i64 (.ofNat 0), .int .i64 (.ofNat 0), .int .i64 (.ofNat 0)], some [.int .i64, .int .i64, .int .i64, .int .i64, .int .i64, .int .i64, .int .i64, .int .i64, .int .i64, .int .i64, .int .i64, .int .i64, .int .i64, .int .i64, .int .i64, .int .i64, .int .i64, .int .i64, .int .i64, .int .i64, .int .i64, .int .i64, .int .i64, .int .i64, .int .i64, .int .i64, .int .i64, .int .i64, .int .i64, .int .i64, .int .i64, .int .i64, .int .i64]⟩
noncomputable def ti209 : TI := ⟨.func, 1, 8, [.nilFunc], none⟩
noncomputable def ti210 : TI := ⟨.func, 1, 8, [.nilFunc], none⟩
noncomputable def ti211 : TI := ⟨.func, 1, 8, [.nilFunc], none⟩
noncomputable def ti212 : TI := ⟨.func, 1, 8, [.nilFunc], none⟩
noncomputable def ti213 : TI := ⟨.func, 1, 8, [.nilFunc], none⟩
noncomputable def ti214 : TI := ⟨.func, 1, 8, [.nilFunc], none⟩
noncomputable def ti215 : TI := ⟨(.arr 4 213), 4, 32, [.nilFunc, .nilFunc, .nilFunc, .nilFunc], none⟩
noncomputable def ti216 : TI := ⟨.func, 1, 8, [.nilFunc], none⟩
noncomputable def ti217 : TI := ⟨(.ptr 5), 1, 8, [.nilPtr], none⟩
noncomputable def ti218 : TI := ⟨.func, 1, 8, [.nilFunc], none⟩
noncomputable def ti220 : TI := ⟨.func, 1, 8, [.nilFunc], none⟩
noncomputable def ti221 : TI := ⟨(.ptr 33), 1, 8, [.nilPtr], none⟩
noncomputable def ti223 : TI := ⟨.func, 1, 8, [.nilFunc], none⟩
noncomputable def ti224 : TI := ⟨.func, 1, 8, [.nilFunc], none⟩
noncomputable def ti225 : TI := ⟨(.slice 314), 1, 24, [.nilSlice], none⟩
noncomputable def ti227 : TI := ⟨.func, 1, 8, [.nilFunc], none⟩
noncomputable def ti228 : TI := ⟨.func, 1, 8, [.nilFunc], none⟩
noncomputable def ti229 : TI := ⟨.func, 1, 8, [.nilFunc], none⟩
noncomputable def ti230 : TI := ⟨.func, 1, 8, [.nilFunc], none⟩
noncomputable def ti231 : TI := ⟨.func, 1, 8, [.nilFunc], none⟩
noncomputable def ti232 : TI := ⟨.func, 1, 8, [.nilFunc], none⟩
noncomputable def ti233 : TI := ⟨.func, 1, 8, [.nilFunc], none⟩
noncomputable def ti234 : TI := ⟨.func, 1, 8, [.nilFunc], none⟩
noncomputable def ti235 : TI := ⟨.func, 1, 8, [.nilFunc], none⟩
noncomputable def ti236 : TI := ⟨.func, 1, 8, [.nilFunc], none⟩
noncomputable def ti237 : TI := ⟨(.int .i64), 1, 8, [.int .i64 (.ofNat 0)], some [.int .i64]⟩
noncomputable def ti239 : TI := ⟨.func, 1, 8, [.nilFunc], none⟩
noncomputable def ti240 : TI := ⟨.func, 1, 8, [.nilFunc], none⟩
noncomputable def ti241 : TI := ⟨.func, 1, 8, [.nilFunc], none⟩
noncomputable def ti242 : TI := ⟨.func, 1, 8, [.nilFunc], none⟩
noncomputable def ti243 : TI := ⟨.func, 1, 8, [.nilFunc], none⟩
noncomputable def ti244 : TI := ⟨(.int .u32), 1, 4, [.int .u32 (.ofNat 0)], some [.int .u32]⟩
noncomputable def ti245 : TI := ⟨.func, 1, 8, [.nilFunc], none⟩
noncomputable def ti246 : TI := ⟨(.int .u64), 1, 8, [.int .u64 (.ofNat 0)], some [.int .u64]⟩
noncomputable def ti247 : TI := ⟨.func, 1, 8, [.nilFunc], none⟩
noncomputable def ti248 : TI := ⟨(.arr 6 3), 6, 48, [.int .i64 (.ofNat 0), .int .i64 (.ofNat 0), .int .i64 (.ofNat 0), .int .i64 (.ofNat 0), .int .i64 (.ofNat 0), .int .i64 (.ofNat 0)], some [.int .i64, .int .i64, .int .i64, .int .i64, .int .i64, .int .i64]⟩
noncomputable def ti249 : TI := ⟨.func, 1, 8, [.nilFunc], none⟩
noncomputable def ti250 : TI := ⟨.func, 1, 8, [.nilFunc], none⟩
noncomputable def ti251 : TI := ⟨.func, 1, 8, [.nilFunc], none⟩
noncomputable def ti252 : TI := ⟨.func, 1, 8, [.nilFunc], none⟩
noncomputable def ti253 : TI := ⟨.func, 1, 8, [.nilFunc], none⟩
noncomputable def ti254 : TI := ⟨.func, 1, 8, [.nilFunc], none⟩
noncomputable def ti255 : TI := ⟨.func, 1, 8, [.nilFunc], none⟩
noncomputable def ti256 : TI := ⟨.func, 1, 8, [.nilFunc], none⟩
noncomputable def ti257 : TI := ⟨.func, 1, 8, [.nilFunc], none⟩
noncomputable def ti259 : TI := ⟨.func, 1, 8, [.nilFunc], none⟩
noncomputable def ti260 : TI := ⟨.func, 1, 8, [.nilFunc], none⟩
noncomputable def ti262 : TI := ⟨.func, 1, 8, [.nilFunc], none⟩
noncomputable def ti263 : TI := ⟨.func, 1, 8, [.nilFunc], none⟩
noncomputable def ti264 : TI := ⟨(.ptr 267), 1, 8, [.nilPtr], none⟩
noncomputable def ti265 : TI := ⟨(.map 306 308), 1, 8, [.nilMap], none⟩
noncomputable def ti266 : TI := ⟨(.struct [(0, 3), (1, 265)]), 2, 16, [.int .i64 (.ofNat 0), .nilMap], none⟩
noncomputable def ti267 : TI := ⟨(.struct [(0, 3), (1, 265)]), 2, 16, [.int .i64 (.ofNat 0), .nilMap], none⟩
noncomputable def ti268 : TI := ⟨.func, 1, 8, [.nilFunc], none⟩
noncomputable def ti269 : TI := ⟨.func, 1, 8, [.nilFunc], none⟩
noncomputable def ti270 : TI := ⟨(.arr 6 269), 6, 48, [.nilFunc, .nilFunc, .nilFunc, .nilFunc, .nilFunc, .nilFunc], none⟩
noncomputable def ti271 : TI := ⟨.func, 1, 8, [.nilFunc], none⟩
noncomputable def ti272 : TI := ⟨(.slice 269), 1, 24, [.nilSlice], none⟩
noncomputable def ti273 : TI := ⟨.func, 1, 8, [.nilFunc], none⟩
noncomputable def ti274 : TI := ⟨.other, 1, 8, [.nilPtr], none⟩
noncomputable def ti275 : TI := ⟨.func, 1, 8, [.nilFunc], none⟩
noncomputable def ti276 : TI := ⟨.func, 1, 8, [.nilFunc], none⟩
noncomputable def ti277 : TI := ⟨(.arr 24 5), 24, 24, [.int .u8 (.ofNat 0), .int .u8 (.ofNat 0), .int .u8 (.ofNat 0), .int .u8 (.ofNat 0), .int .u8 (.ofNat 0), .int .u8 (.ofNat 0), .int .u8 (.ofNat 0), .int .u8 (.ofNat 0), .int .u8 (.ofNat 0), .int .u8 (.ofNat 0), .int .u8 (.ofNat 0), .int .u8 (.ofNat 0), .int .u8 (.ofNat 0), .int .u8 (.ofNat 0), .int .u8 (.ofNat 0), .int .u8 (.ofNat 0), .int .u8 (.ofNat 0), .int .u8 (.ofNat 0), .int .u8 (.ofNat 0), .int .u8 (.ofNat 0), .int .u8 (.ofNat 0), .int .u8 (.ofNat 0), .int .u8 (.ofNat 0), .int .u8 (.ofNat 0)], some [.int .u8, .int .u8, .int .u8, .int .u8, .int .u8, .int .u8, .int .u8, .int .u8, .int .u8, .int .u8, .int .u8, .int .u8, .int .u8, .int .u8, .int .u8, .int .u8, .int .u8, .int .u8, .int .u8, .int .u8, .int .u8, .int .u8, .int .u8, .int .u8]⟩
noncomputable def ti278 : TI := ⟨.func, 1, 8, [.nilFunc], none⟩
noncomputable def ti280 : TI := ⟨.func, 1, 8, [.nilFunc], none⟩
noncomputable def ti281 : TI := ⟨.func, 1, 8, [.nilFunc], none⟩
noncomputable def ti282 : TI := ⟨.func, 1, 8, [.nilFunc], none⟩
noncomputable def ti283 : TI := ⟨.func, 1, 8, [.nilFunc], none⟩
noncomputable def ti284 : TI := ⟨(.slice 287), 1, 24, [.nilSlice], none⟩
noncomputable def ti285 : TI := ⟨.func, 1, 8, [.nilFunc], none⟩
noncomputable def ti286 : TI := ⟨(.struct [(0, 3), (1, 3), (2, 3), (3, 3), (4, 3), (5, 4)]), 6, 48, [.int .i64 (.ofNat 0), .int .i64 (.ofNat 0), .int .i64 (.ofNat 0), .int .i64 (.ofNat 0), .int .i64 (.ofNat 0), .bool false], some [.int .i64, .int .i64, .int .i64, .int .i64, .int .i64, .bool]⟩
noncomputable def ti287 : TI := ⟨(.struct [(0, 3), (1, 3), (2, 3), (3, 3), (4, 3), (5, 4)]), 6, 48, [.int .i64 (.ofNat 0), .int .i64 (.ofNat 0), .int .i64 (.ofNat 0), .int .i64 (.ofNat 0), .int .i64 (.ofNat 0), .bool false], some [.int .i64, .int .i64, .int .i64, .int .i64, .int .i64, .bool]⟩
noncomputable def ti289 : TI := ⟨.func, 1, 8, [.nilFunc], none⟩
noncomputable def ti290 : TI := ⟨.func, 1, 8, [.nilFunc], none⟩
noncomputable def ti291 : TI := ⟨(.int .u64), 1, 8, [.int .u64 (.ofNat 0)], some [.int .u64]⟩
noncomputable def ti292 : TI := ⟨.func, 1, 8, [.nilFunc], none⟩
noncomputable def ti293 : TI := ⟨.func, 1, 8, [.nilFunc], none⟩
noncomputable def ti294 : TI := ⟨.func, 1, 8, [.nilFunc], none⟩
noncomputable def ti295 : TI := ⟨(.ptr 3), 1, 8, [.nilPtr], none⟩
noncomputable def ti296 : TI := ⟨.func, 1, 8, [.nilFunc], none⟩
noncomputable def ti297 : TI := ⟨.func, 1, 8, [.nilFunc], none⟩
noncomputable def ti298 : TI := ⟨.func, 1, 8, [.nilFunc], none⟩
noncomputable def ti300 : TI := ⟨.func, 1, 8, [.nilFunc], none⟩
noncomputable def ti301 : TI := ⟨.func, 1, 8, [.nilFunc], none⟩
noncomputable def ti302 : TI := ⟨.func, 1, 8, [.nilFunc], none⟩
noncomputable def ti304 : TI := ⟨.func, 1, 8, [.nilFunc], none⟩
noncomputable def ti305 : TI := ⟨(.struct [(0, 5), (1, 3), (2, 3)]), 3, 24, [.int .u8 (.ofNat 0), .int .i64 (.ofNat 0), .int .i64 (.ofNat 0)], some [.int .u8, .int .i64, .int .i64]⟩
noncomputable def ti306 : TI := ⟨(.struct [(0, 5), (1, 3), (2, 3)]), 3, 24, [.int .u8 (.ofNat 0), .int .i64 (.ofNat 0), .int .i64 (.ofNat 0)], some [.int .u8, .int .i64, .int .i64]⟩
noncomputable def ti307 : TI := ⟨(.struct [(0, 3), (1, 3)]), 2, 16, [.int .i64 (.ofNat 0), .int .i64 (.ofNat 0)], some [.int .i64, .int .i64]⟩
noncomputable def ti308 : TI := ⟨(.struct [(0, 3), (1, 3)]), 2, 16, [.int .i64 (.ofNat 0), .int .i64 (.ofNat 0)], some [.int .i64, .int .i64]⟩
noncomputable def ti310 : TI := ⟨.func, 1, 8, [.nilFunc], none⟩
noncomputable def ti311 : TI := ⟨.func, 1, 8, [.nilFunc], none⟩
noncomputable def ti312 : TI := ⟨.func, 1, 8, [.nilFunc], none⟩
noncomputable def ti313 : TI := ⟨(.struct [(0, 5), (1, 3), (2, 3), (3, 3)]), 4, 32, [.int .u8 (.ofNat 0), .int .i64 (.ofNat 0), .int .i64 (.ofNat 0), .int .i64 (.ofNat 0)], some [.int .u8, .int .i64, .int .i64, .int .i64]⟩
noncomputable def ti314 : TI := ⟨(.struct [(0, 5), (1, 3), (2, 3), (3, 3)]), 4, 32, [.int .u8 (.ofNat 0), .int .i64 (.ofNat 0), .int .i64 (.ofNat 0), .int .i64 (.ofNat 0)], some [.int .u8, .int .i64, .int .i64, .int .i64]⟩
noncomputable def ti315 : TI := ⟨.func, 1, 8, [.nilFunc], none⟩
noncomputable def ti316 : TI := ⟨.func, 1, 8, [.nilFunc], none⟩
noncomputable def ti317 : TI := ⟨.func, 1, 8, [.nilFunc], none⟩
noncomputable def ti318 : TI := ⟨(.arr 20 246), 20, 160, [.int .u64 (.ofNat 0), .int .u64 (.ofNat 0), .int .u64 (.ofNat 0), .int .u64 (.ofNat 0), .int .u64 (.ofNat 0), .int .u64 (.ofNat 0), .int .u64 (.ofNat 0), .int .u64 (.ofNat 0), .int .u64 (.ofNat 0), .int .u64 (.ofNat 0), .int .u64 (.ofNat 0), .int .u64 (.ofNat 0), .int .u64 (.ofNat 0), .int .u64 (.ofNat 0), .int .u64 (.ofNat 0), .int .u64 (.ofNat 0), .int .u64 (.ofNat 0), .int .u64 (.ofNat 0), .int .u64 (.ofNat 0), .int .u64 (.ofNat 0)], some [.int .u64, .int .u64, .int .u64, .int .u64, .int .u64, .int .u64, .int .u64, .int .u64, .int .u64, .int .u64, .int .u64, .int .u64, .int .u64, .int .u64, .int .u64, .int .u64, .int .u64, .int .u64, .int .u64, .int .u64]⟩
noncomputable def ti319 : TI := ⟨(.arr 65 5), 65, 65, [.int .u8 (.ofNat 0), .int .u8 (.ofNat 0), .int .u8 (.ofNat 0), .int .u8 (.ofNat 0), .int .u8 (.ofNat 0), .int .u8 (.ofNat 0), .int .u8 (.ofNat 0), .int .u8 (.ofNat 0), .int .u8 (.ofNat 0), .int .u8 (.ofNat 0), .int .u8 (.ofNat 0), .int .u8 (.ofNat 0), .int .u8 (.ofNat 0), .int .u8 (.ofNat 0), .int .u8 (.ofNat 0), .int .u8 (.ofNat 0), .int .u8 (.ofNat 0), .int .u8 (.ofNat 0), .int .u8 (.ofNat 0), .int .u8 (.ofNat 0), .int .u8 (.ofNat 0), .int .u8 (.ofNat 0), .int .u8 (.ofNat 0), .int .u8 (.ofNat 0), .int .u8 (.ofNat 0), .int .u8 (.ofNat 0), .int .u8 (.ofNat 0), .int .u8 (.ofNat 0), .int .u8 (.ofNat 0), .int .u8 (.ofNat 0), .int .u8 (.ofNat 0), .int .u8 (.ofNat 0), .int .u8 (.ofNat 0), .int .u8 (.ofNat 0), .int .u8 (.ofNat 0), .int .u8 (.ofNat 0), .int .u8 (.ofNat 0), .int .u8 (.ofNat 0), .int .u8 (.ofNat 0), .int .u8 (.ofNat 0), .int .u8 (.ofNat 0), .int .u8 (.ofNat 0), .int .u8 (.ofNat 0), .int .u8 (.ofNat 0), .int .u8 (.ofNat 0), .int .u8 (.ofNat 0), .int .u8 (.ofNat 0), .int .u8 (.ofNat 0), .int .u8 (.ofNat 0), .int .u8 (.ofNat 0), .int .u8 (.ofNat 0), .int .u8 (.ofNat 0), .int .u8 (.ofNat 0), .int .u8 (.ofNat 0), .int .u8 (.ofNat 0), .int .u8 (.ofNat 0), .int .u8 (.ofNat 0), .int .u8 (.ofNat 0), .int .u8 (.ofNat 0), .int .u8 (.ofNat 0), .int .u8 (.ofNat 0), .int .u8 (.ofNat 0), .int .u8 (.ofNat 0), .int .u8 (.ofNat 0), .int .u8 (.ofNat 0)], some [.int .u8, .int .u8, .int .u8, .int .u8, .int .u8, .int .u8, .int .u8, .int .u8, .int .u8, .int .u8, .int .u8, .int .u8, .int .u8, .int .u8, .int .u8, .int .u8, .int .u8, .int .u8, .int .u8, .int .u8, .int .u8, .int .u8, .int .u8, .int .u8, .int .u8, .int .u8, .int .u8, .int .u8, .int .u8, .int .u8, .int .u8, .int .u8, .int .u8, .int .u8, .int .u8, .int .u8, .int .u8, .int .u8, .int .u8, .int .u8, .int .u8, .int .u8, .int .u8, .int .u8, .int .u8, .int .u8, .int .u8, .int .u8, .int .u8, .int .u8, .int .u8, .int .u8, .int .u8, .int .u8, .int .u8, .int .u8, .int .u8, .int .u8, .int .u8, .int .u8, .int .u8, .int .u8, .int .u8, .int .u8, .int .u8]⟩
noncomputable def ti320 : TI := ⟨(.ptr 287), 1, 8, [.nilPtr], none⟩
noncomputable def ti322 : TI := ⟨.func, 1, 8, [.nilFunc], none⟩
noncomputable def ti323 : TI := ⟨.func, 1, 8, [.nilFunc], none⟩
noncomputable def ti324 : TI := ⟨.func, 1, 8, [.nilFunc], none⟩
noncomputable def ti325 : TI := ⟨(.ptr 355), 1, 8, [.nilPtr], none⟩
noncomputable def ti327 : TI := ⟨.func, 1, 8, [.nilFunc], none⟩
noncomputable def ti328 : TI := ⟨.func, 1, 8, [.nilFunc], none⟩
noncomputable def ti329 : TI := ⟨.func, 1, 8, [.nilFunc], none⟩
noncomputable def ti331 : TI := ⟨.func, 1, 8, [.nilFunc], none⟩
noncomputable def ti332 : TI := ⟨.func, 1, 8, [.nilFunc], none⟩
noncomputable def ti333 : TI := ⟨.func, 1, 8, [.nilFunc], none⟩
noncomputable def ti334 : TI := ⟨(.ptr 291), 1, 8, [.nilPtr], none⟩
noncomputable def ti336 : TI := ⟨.func, 1, 8, [.nilFunc], none⟩
noncomputable def ti337 : TI := ⟨.func, 1, 8, [.nilFunc], none⟩
noncomputable def ti338 : TI := ⟨(.int .i64), 1, 8, [.int .i64 (.ofNat 0)], some [.int .i64]⟩
noncomputable def ti340 : TI := ⟨.func, 1, 8, [.nilFunc], none⟩
noncomputable def ti341 : TI := ⟨(.ptr 362), 1, 8, [.nilPtr], none⟩
noncomputable def ti342 : TI := ⟨.func, 1, 8, [.nilFunc], none⟩
noncomputable def ti343 : TI := ⟨.func, 1, 8, [.nilFunc], none⟩
noncomputable def ti345 : TI := ⟨.func, 1, 8, [.nilFunc], none⟩
noncomputable def ti346 : TI := ⟨(.arr 256 5), 256, 256, [.int .u8 (.ofNat 0), .int .u8 (.ofNat 0), .int .u8 (.ofNat 0), .int .u8 (.ofNat 0), .int .u8 (.ofNat 0), .int .u8 (.ofNat 0), .int .u8 (.ofNat 0), .int .u8 (.ofNat 0), .int .u8 (.ofNat 0), .int .u8 (.ofNat 0), .int .u8 (.ofNat 0), .int .u8 (.ofNat 0), .int .u8 (.ofNat 0), .int .u8 (.ofNat 0), .int .u8 (.ofNat 0), .int .u8 (.ofNat 0), .int .u8 (.ofNat 0), .int .u8 (.ofNat 0), .int .u8 (.ofNat 0), .int .u8 (.ofNat 0), .int .u8 (.ofNat 0), .int .u8 (.ofNat 0), .int .u8 (.ofNat 0), .int .u8 (.ofNat 0), .int .u8 (.ofNat 0), .int .u8 (.ofNat 0), .int .u8 (.ofNat 0), .int .u8 (.ofNat 0), .int .u8 (.ofNat 0), .int .u8 (.ofNat 0), .int .u8 (.ofNat 0), .int .u8 (.ofNat 0), .int .u8 (.ofNat 0), .int .u8 (.ofNat 0), .int .u8 (.ofNat 0), .int .u8 (.ofNat 0), .int .u8 (.ofNat 0), .int .u8 (.ofNat 0), .int .u8 (.ofNat 0), .int .u8 (.ofNat 0), .int .u8 (.ofNat 0), .int .u8 (.ofNat 0), .int .u8 (.ofNat 0), .int .u8 (.ofNat 0), .int .u8 (.ofNat 0), .int .u8 (.ofNat 0), .int .u8 (.ofNat 0), .int .u8 (.ofNat 0), .int .u8 (.ofNat 0), .int .u8 (.ofNat 0), .int .u8 (.ofNat 0), .int .u8 (.ofNat 0), .int .u8 (.ofNat 0), .int .u8 (.ofNat 0), .int .u8 (.ofNat 0), .int .u8 (.ofNat 0), .int .u8 (.ofNat 0), .int .u8 (.ofNat 0), .int .u8 (.ofNat 0), .int .u8 (.ofNat 0), .int .u8 (.ofNat 0), .int .u8 (.ofNat 0), .int .u8 (.ofNat 0), .int .u8 (.ofNat 0), .int .u8 (.ofNat 0), .int .u8 (.ofNat 0), .int .u8 (.ofNat 0), .int .u8 (.ofNat 0), .int .u8 (.ofNat 0), .int .u8 (.ofNat 0), .int .u8 (.ofNat 0), .int .u8 (.ofNat 0), .int .u8 (.ofNat 0), .int .u8 (.ofNat 0), .int .u8 (.ofNat 0), .int .u8 (.ofNat 0), .int .u8 (.ofNat 0), .int .u8 (.ofNat 0), .int .u8 (.ofNat 0), .int .u8 (.ofNat 0), .int .u8 (.ofNat 0), .int .u8 (.ofNat 0), .int .u8 (.ofNat 0), .int .u8 (.ofNat 0), .int .u8 (.ofNat 0), .int .u8 (.ofNat 0), .int .u8 (.ofNat 0), .int .u8 (.ofNat 0), .int .u8 (.ofNat 0), .int .u8 (.ofNat 0), .int .u8 (.ofNat 0), .int .u8 (.ofNat 0), .int .u8 (.ofNat 0), .int .u8 (.ofNat 0), .int .u8 (.ofNat 0), .int .u8 (.ofNat 0), .int .u8 (.ofNat 0), .int .u8 (.ofNat 0), .int .u8 (.ofNat 0), .int .u8 (.ofNat 0), .int .u8 (.ofNat 0), .int .u8 (.ofNat 0), .int .u8 (.ofNat 0), .int .u8 (.ofNat 0), .int .u8 (.ofNat 0), .int .u8 (.ofNat 0), .int .u8 (.ofNat 0), .int .u8 (.ofNat 0), .int .u8 (.ofNat 0), .int .u8 (.ofNat 0), .int .u8 (.ofNat 0), .int .u8 (.ofNat 0), .int .u8 (.ofNat 0), .int .u8 (.ofNat 0), .int .u8 (.ofNat 0), .int .u8 (.ofNat 0), .int .u8 (.ofNat 0), .int .u8 (.ofNat 0), .int .u8 (.ofNat 0), .int .u8 (.ofNat 0), .int .u8 (.ofNat 0), .int .u8 (.ofNat 0), .int .u8 (.ofNat 0), .int .u8 (.ofNat 0), .int .u8 (.ofNat 0), .int .u8 (.ofNat 0), .int .u8 (.ofNat 0), .int .u8 (.ofNat 0), .int .u8 (.ofNat 0), .int .u8 (.ofNat 0), .int .u8 (.ofNat 0), .int .u8 (.ofNat 0), .int .u8 (.ofNat 0), .int .u8 (.ofNat 0), .int .u8 (.ofNat 0), .int .u8 (.ofNat 0), .int .u8 (.ofNat 0), .int .u8 (.ofNat 0), .int .u8 (.ofNat 0), .int .u8 (.ofNat 0), .int .u8 (.ofNat 0), .int .u8 (.ofNat 0), .int .u8 (.ofNat 0), .int .u8 (.ofNat 0), .int .u8 (.ofNat 0), .int .u8 (.ofNat 0), .int .u8 (.ofNat 0), .int .u8 (.ofNat 0), .int .u8 (.ofNat 0), .int .u8 (.ofNat 0), .int .u8 (.ofNat 0), .int .u8 (.ofNat 0), .int .u8 (.ofNat 0), .int .u8 (.ofNat 0), .int .u8 (.ofNat 0), .int .u8 (.ofNat 0), .int .u8 (.ofNat 0), .int .u8 (.ofNat 0), .int .u8 (.ofNat 0), .int .u8 (.ofNat 0), .int .u8 (.ofNat 0), .int .u8 (.ofNat 0), .int .u8 (.ofNat 0), .int .u8 (.ofNat 0), .int .u8 (.ofNat 0), .int .u8 (.ofNat 0), .int .u8 (.ofNat 0), .int .u8 (.ofNat 0), .int .u8 (.ofNat 0), .int .u8 (.ofNat 0), .int .u8 (.ofNat 0), .int .u8 (.ofNat 0), .int .u8 (.ofNat 0), .int .u8 (.ofNat 0), .int .u8 (.ofNat 0), .int .u8 (.ofNat 0), .int .u8 (.ofNat 0), .int .u8 (.ofNat 0), .int .u8 (.ofNat 0), .int .u8 (.ofNat 0), .int .u8 (.ofNat 0), .int .u8 (.ofNat 0), .int .u8 (.ofNat 0), .int .u8 (.ofNat 0), .int .u8 (.ofNat 0), .int .u8 (.ofNat 0), .int .u8 (.ofNat 0), .int .u8 (.ofNat 0), .int .u8 (.ofNat 0), .int .u8 (.ofNat 0), .int .u8 (.ofNat 0), .int .u8 (.ofNat 0), .int .u8 (.ofNat 0), .int .u8 (.ofNat 0), .int .u8 (.ofNat 0), .int .u8 (.ofNat 0), .int .u8 (.ofNat 0), .int .u8 (.ofNat 0), .int .u8 (.ofNat 0), .int .u8 (.ofNat 0), .int .u8 (.ofNat 0), .int .u8 (.ofNat 0), .int .u8 (.ofNat 0), .int .u8 (.ofNat 0), .int .u8 (.ofNat 0), .int .u8 (.ofNat 0), .int .u8 (.ofNat 0), .int .u8 (.ofNat 0), .int .u8 (.ofNat 0), .int .u8 (.ofNat 0), .int .u8 (.ofNat 0), .int .u8 (.ofNat 0), .int .u8 (.ofNat 0), .int .u8 (.ofNat 0), .int .u8 (.ofNat 0), .int .u8 (.ofNat 0), .int .u8 (.ofNat 0), .int .u8 (.ofNat 0), .int .u8 (.ofNat 0), .int .u8 (.ofNat 0), .int .u8 (.ofNat 0), .int .u8 (.ofNat 0), .int .u8 (.ofNat 0), .int .u8 (.ofNat 0), .int .u8 (.ofNat 0), .int .u8 (.ofNat 0), .int .u8 (.ofNat 0), .int .u8 (.ofNat 0), .int .u8 (.ofNat 0), .int .u8 (.ofNat 0), .int .u8 (.ofNat 0), .int .u8 (.ofNat 0), .int .u8 (.ofNat 0), .int .u8 (.ofNat 0), .int .u8 (.ofNat 0), .int .u8 (.ofNat 0), .int .u8 (.ofNat 0), .int .u8 (.ofNat 0), .int .u8 (.ofNat 0), .int .u8 (.ofNat 0), .int .u8 (.ofNat 0), .int .u8 (.ofNat 0), .int .u8 (.ofNat 0), .int .u8 (.ofNat 0), .int .u8 (.ofNat 0), .int .u8 (.ofNat 0), .int .u8 (.ofNat 0), .int .u8 (.ofNat 0), .int .u8 (.ofNat 0), .int .u8 (.ofNat 0), .int .u8 (.ofNat 0), .int .u8 (.ofNat 0), .int .u8 (.ofNat 0), .int .u8 (.ofNat 0), .int .u8 (.ofNat 0), .int .u8 (.ofNat 0)], some [.int .u8, .int .u8, .int .u8, .int .u8, .int .u8, .int .u8, .int .u8, .int .u8, .int .u8, .int .u8, .int .u8, .int .u8, .int .u8, .int .u8, .int .u8, .int .u8, .int .u8, .int .u8, .int .u8, .int .u8, .int .u8, .int .u8, .int .u8, .int .u8, .int .u8, .int .u8, .int .u8, .int .u8, .int .u8, .int .u8, .int .u8, .int .u8, .int .u8, .int .u8, .int .u8, .int .u8, .int .u8, .int .u8, .int .u8, .int .u8, .int .u8, .int .u8, .int .u8, .int .u8, .int .u8, .int .u8, .int .u8, .int .u8, .int .u8, .int .u8, .int .u8, .int .u8, .int .u8, .int .u8, .int .u8, .int .u8, .int .u8, .int .u8, .int .u8, .int .u8, .int .u8, .int .u8, .int .u8, .int .u8, .int .u8, .int .u8, .int .u8, .int .u8, .int .u8, .int .u8, .int .u8, .int .u8, .int .u8, .int .u8, .int .u8, .int .u8, .int .u8, .int .u8, .int .u8, .int .u8, .int .u8, .int .u8, .int .u8, .int .u8, .int .u8, .int .u8, .int .u8, .int .u8, .int .u8, .int .u8, .int .u8, .int .u8, .int .u8, .int .u8, .int .u8, .int .u8, .int .u8, .int .u8, .int .u8, .int .u8, .int .u8, .int .u8, .int .u8, .int .u8, .int .u8, .int .u8, .int .u8, .int .u8, .int .u8, .int .u8, .int .u8, .int .u8, .int .u8, .int .u8, .int .u8, .int .u8, .int .u8, .int .u8, .int .u8, .int .u8, .int .u8, .int .u8, .int .u8, .int .u8, .int .u8, .int .u8, .int .u8, .int .u8, .int .u8, .int .u8, .int .u8, .int .u8, .int .u8, .int .u8, .int .u8, .int .u8, .int .u8, .int .u8, .int .u8, .int .u8, .int .u8, .int .u8, .int .u8, .int .u8, .int .u8, .int .u8, .int .u8, .int .u8, .int .u8, .int .u8, .int .u8, .int .u8, .int .u8, .int .u8, .int .u8, .int .u8, .int .u8, .int .u8, .int .u8, .int .u8, .int .u8, .int .u8, .int .u8, .int .u8, .int .u8, .int .u8, .int .u8, .int .u8, .int .u8, .int .u8, .int .u8, .int .u8, .int .u8, .int .u8, .int .u8, .int .u8, .int .u8, .int .u8, .int .u8, .int .u8, .int .u8, .int .u8, .int .u8, .int .u8, .int .u8, .int .u8, .int .u8, .int .u8, .int .u8, .int .u8, .int .u8, .int .u8, .int .u8, .int .u8, .int .u8, .int .u8, .int .u8, .int .u8, .int .u8, .int .u8, .int .u8, .int .u8, .int .u8, .int .u8, .int .u8, .int .u8, .int .u8, .int .u8, .int .u8, .int .u8, .int .u8, .int .u8, .int .u8, .int .u8, .int .u8, .int .u8, .int .u8, .int .u8, .int .u8, .int .u8, .int .u8, .int .u8, .int .u8, .int .u8, .int .u8, .int .u8, .int .u8, .int .u8, .int .u8, .int .u8, .int .u8, .int .u8, .int .u8, .int .u8, .int .u8, .int .u8, .int .u8, .int .u8, .int .u8, .int .u8, .int .u8, .int .u8, .int .u8, .int .u8, .int .u8, .int .u8, .int .u8, .int .u8, .int .u8, .int .u8, .int .u8, .int .u8, .int .u8, .int .u8, .int .u8, .int .u8]⟩
noncomputable def ti347 : TI := ⟨(.struct [(0, 5), (1, 5)]), 2, 2, [.int .u8 (.ofNat 0), .int .u8 (.ofNat 0)], some [.int .u8, .int .u8]⟩
noncomputable def ti348 : TI := ⟨(.struct [(0, 5), (1, 5)]), 2, 2, [.int .u8 (.ofNat 0), .int .u8 (.ofNat 0)], some [.int .u8, .int .u8]⟩
noncomputable def ti349 : TI := ⟨(.arr 16 348), 32, 32, [.int .u8 (.ofNat 0), .int .u8 (.ofNat 0), .int .u8 (.ofNat 0), .int .u8 (.ofNat 0), .int .u8 (.ofNat 0), .int .u8 (.ofNat 0), .int .u8 (.ofNat 0), .int .u8 (.ofNat 0), .int .u8 (.ofNat 0), .int .u8 (.ofNat 0), .int .u8 (.ofNat 0), .int .u8 (.ofNat 0), .int .u8 (.ofNat 0), .int .u8 (.ofNat 0), .int .u8 (.ofNat 0), .int .u8 (.ofNat 0), .int .u8 (.ofNat 0), .int .u8 (.ofNat 0), .int .u8 (.ofNat 0), .int .u8 (.ofNat 0), .int .u8 (.ofNat 0), .int .u8 (.ofNat 0), .int .u8 (.ofNat 0), .int .u8 (.ofNat 0), .int .u8 (.ofNat 0), .int .u8 (.ofNat 0), .int .u8 (.ofNat 0), .int .u8 (.ofNat 0), .int .u8 (.ofNat 0), .int .u8 (.ofNat 0), .int .u8 (.ofNat 0), .int .u8 (.ofNat 0)], some [.int .u8, .int .u8, .int .u8, .int .u8, .int .u8, .int .u8, .int .u8, .int .u8, .int .u8, .int .u8, .int .u8, .int .u8, .int .u8, .int .u8, .int .u8, .int .u8, .int .u8, .int .u8, .int .u8, .int .u8, .int .u8, .int .u8, .int .u8, .int .u8, .int .u8, .int .u8, .int .u8, .int .u8, .int .u8, .int .u8, .int .u8, .int .u8]⟩
noncomputable def ti350 : TI := ⟨.func, 1, 8, [.nilFunc], none⟩
noncomputable def ti351 : TI := ⟨.func, 1, 8, [.nilFunc], none⟩
noncomputable def ti352 : TI := ⟨.func, 1, 8, [.nilFunc], none⟩
noncomputable def ti353 : TI := ⟨(.arr 16 244), 16, 64, [.int .u32 (.ofNat 0), .int .u32 (.ofNat 0), .int .u32 (.ofNat 0), .int .u32 (.ofNat 0), .int .u32 (.ofNat 0), .int .u32 (.ofNat 0), .int .u32 (.ofNat 0), .int .u32 (.ofNat 0), .int .u32 (.ofNat 0), .int .u32 (.ofNat 0), .int .u32 (.ofNat 0), .int .u32 (.ofNat 0), .int .u32 (.ofNat 0), .int .u32 (.ofNat 0), .int .u32 (.ofNat 0), .int .u32 (.ofNat 0)], some [.int .u32, .int .u32, .int .u32, .int .u32, .int .u32, .int .u32, .int .u32, .int .u32, .int .u32, .int .u32, .int .u32, .int .u32, .int .u32, .int .u32, .int .u32, .int .u32]⟩
noncomputable def ti354 : TI := ⟨(.struct [(0, 36), (1, 353)]), 17, 88, [.nilSlice, .int .u32 (.ofNat 0), .int .u32 (.ofNat 0), .int .u32 (.ofNat 0), .int .u32 (.ofNat 0), .int .u32 (.ofNat 0), .int .u32 (.ofNat 0), .int .u32 (.ofNat 0), .int .u32 (.ofNat 0), .int .u32 (.ofNat 0), .int .u32 (.ofNat 0), .int .u32 (.ofNat 0), .int .u32 (.ofNat 0), .int .u32 (.ofNat 0), .int .u32 (.ofNat 0), .int .u32 (.ofNat 0), .int .u32 (.ofNat 0)], none⟩
noncomputable def ti355 : TI := ⟨(.struct [(0, 36), (1, 353)]), 17, 88, [.nilSlice, .int .u32 (.ofNat 0), .int .u32 (.ofNat 0), .int .u32 (.ofNat 0), .int .u32 (.ofNat 0), .int .u32 (.ofNat 0), .int .u32 (.ofNat 0), .int .u32 (.ofNat 0), .int .u32 (.ofNat 0), .int .u32 (.ofNat 0), .int .u32 (.ofNat 0), .int .u32 (.ofNat 0), .int .u32 (.ofNat 0), .int .u32 (.ofNat 0), .int .u32 (.ofNat 0), .int .u32 (.ofNat 0), .int .u32 (.ofNat 0)], none⟩
noncomputable def ti356 : TI := ⟨(.map 244 4), 1, 8, [.nilMap], none⟩
noncomputable def ti359 : TI := ⟨.func, 1, 8, [.nilFunc], none⟩
noncomputable def ti360 : TI := ⟨.func, 1, 8, [.nilFunc], none⟩
noncomputable def ti361 : TI := ⟨(.struct [(0, 9), (1, 9), (2, 175)]), 3, 48, [.str [], .str [], .nilIface], none⟩
noncomputable def ti362 : TI := ⟨(.struct [(0, 9), (1, 9), (2, 175)]), 3, 48, [.str [], .str [], .nilIface], none⟩
noncomputable def ti363 : TI := ⟨.func, 1, 8, [.nilFunc], none⟩
noncomputable def ti364 : TI := ⟨(.arr 32 5), 32, 32, [.int .u8 (.ofNat 0), .int .u8 (.ofNat 0), .int .u8 (.ofNat 0), .int .u8 (.ofNat 0), .int .u8 (.ofNat 0), .int .u8 (.ofNat 0), .int .u8 (.ofNat 0), .int .u8 (.ofNat 0), .int .u8 (.ofNat 0), .int .u8 (.ofNat 0), .int .u8 (.ofNat 0), .int .u8 (.ofNat 0), .int .u8 (.ofNat 0), .int .u8 (.ofNat 0), .int .u8 (.ofNat 0), .int .u8 (.ofNat 0), .int .u8 (.ofNat 0), .int .u8 (.ofNat 0), .int .u8 (.ofNat 0), .int .u8 (.ofNat 0), .int .u8 (.ofNat 0), .int .u8 (.ofNat 0), .int .u8 (.ofNat 0), .int .u8 (.ofNat 0), .int .u8 (.ofNat 0), .int .u8 (.ofNat 0), .int .u8 (.ofNat 0), .int .u8 (.ofNat 0), .int .u8 (.ofNat 0), .int .u8 (.ofNat 0), .int .u8 (.ofNat 0), .int .u8 (.ofNat 0)], some [.int .u8, .int .u8, .int .u8, .int .u8, .int .u8, .int .u8, .int .u8, .int .u8, .int .u8, .int .u8, .int .u8, .int .u8, .int .u8, .int .u8, .int .u8, .int .u8, .int .u8, .int .u8, .int .u8, .int .u8, .int .u8, .int .u8, .int .u8, .int .u8, .int .u8, .int .u8, .int .u8, .int .u8, .int .u8, .int .u8, .int .u8, .int .u8]⟩
noncomputable def ti365 : TI := ⟨(.arr 64 5), 64, 64, [.int .u8 (.ofNat 0), .int .u8 (.ofNat 0), .int .u8 (.ofNat 0), .int .u8 (.ofNat 0), .int .u8 (.ofNat 0), .int .u8 (.ofNat 0), .int .u8 (.ofNat 0), .int .u8 (.ofNat 0), .int .u8 (.ofNat 0), .int .u8 (.ofNat 0), .int .u8 (.ofNat 0), .int .u8 (.ofNat 0), .int .u8 (.ofNat 0), .int .u8 (.ofNat 0), .int .u8 (.ofNat 0), .int .u8 (.ofNat 0), .int .u8 (.ofNat 0), .int .u8 (.ofNat 0), .int .u8 (.ofNat 0), .int .u8 (.ofNat 0), .int .u8 (.ofNat 0), .int .u8 (.ofNat 0), .int .u8 (.ofNat 0), .int .u8 (.ofNat 0), .int .u8 (.ofNat 0), .int .u8 (.ofNat 0), .int .u8 (.ofNat 0), .int .u8 (.ofNat 0), .int .u8 (.ofNat 0), .int .u8 (.ofNat 0), .int .u8 (.ofNat 0), .int .u8 (.ofNat 0), .int .u8 (.ofNat 0), .int .u8 (.ofNat 0), .int .u8 (.ofNat 0), .int .u8 (.ofNat 0), .int .u8 (.ofNat 0), .int .u8 (.ofNat 0), .int .u8 (.ofNat 0), .int .u8 (.ofNat 0), .int .u8 (.ofNat 0), .int .u8 (.ofNat 0), .int .u8 (.ofNat 0), .int .u8 (.ofNat 0), .int .u8 (.ofNat 0), .int .u8 (.ofNat 0), .int .u8 (.ofNat 0), .int .u8 (.ofNat 0), .int .u8 (.ofNat 0), .int .u8 (.ofNat 0), .int .u8 (.ofNat 0), .int .u8 (.ofNat 0), .int .u8 (.ofNat 0), .int .u8 (.ofNat 0), .int .u8 (.ofNat 0), .int .u8 (.ofNat 0), .int .u8 (.ofNat 0), .int .u8 (.ofNat 0), .int .u8 (.ofNat 0), .int .u8 (.ofNat 0), .int .u8 (.ofNat 0), .int .u8 (.ofNat 0), .int .u8 (.ofNat 0), .int .u8 (.ofNat 0)], some [.int .u8, .int .u8, .int .u8, .int .u8, .int .u8, .int .u8, .int .u8, .int .u8, .int .u8, .int .u8, .int .u8, .int .u8, .int .u8, .int .u8, .int .u8, .int .u8, .int .u8, .int .u8, .int .u8, .int .u8, .int .u8, .int .u8, .int .u8, .int .u8, .int .u8, .int .u8, .int .u8, .int .u8, .int .u8, .int .u8, .int .u8, .int .u8, .int .u8, .int .u8, .int .u8, .int .u8, .int .u8, .int .u8, .int .u8, .int .u8, .int .u8, .int .u8, .int .u8, .int .u8, .int .u8, .int .u8, .int .u8, .int .u8, .int .u8, .int .u8, .int .u8, .int .u8, .int .u8, .int .u8, .int .u8, .int .u8, .int .u8, .int .u8, .int .u8, .int .u8, .int .u8, .int .u8, .int .u8, .int .u8]⟩
noncomputable def ti366 : TI := ⟨.func, 1, 8, [.nilFunc], none⟩
noncomputable def ti367 : TI := ⟨.func, 1, 8, [.nilFunc], none⟩
noncomputable def ti368 : TI := ⟨.func, 1, 8, [.nilFunc], none⟩
noncomputable def ti369 : TI := ⟨.func, 1, 8, [.nilFunc], none⟩
noncomputable def ti370 : TI := ⟨.func, 1, 8, [.nilFunc], none⟩
noncomputable def ti371 : TI := ⟨(.arr 65 4), 65, 65, [.bool false, .bool false, .bool false, .bool false, .bool false, .bool false, .bool false, .bool false, .bool false, .bool false, .bool false, .bool false, .bool false, .bool false, .bool false, .bool false, .bool false, .bool false, .bool false, .bool false, .bool false, .bool false, .bool false, .bool false, .bool false, .bool false, .bool false, .bool false, .bool false, .bool false, .bool false, .bool false, .bool false, .bool false, .bool false, .bool false, .bool false, .bool false, .bool false, .bool false, .bool false, .bool false, .bool false, .bool false, .bool false, .bool false, .bool false, .bool false, .bool false, .bool false, .bool false, .bool false, .bool false, .bool false, .bool false, .bool false, .bool false, .bool false, .bool false, .bool false, .bool false, .bool false, .bool false, .bool false, .bool false], some [.bool, .bool, .bool, .bool, .bool, .bool, .bool, .bool, .bool, .bool, .bool, .bool, .bool, .bool, .bool, .bool, .bool, .bool, .bool, .bool, .bool, .bool, .bool, .bool, .bool, .bool, .bool, .bool, .bool, .bool, .bool, .bool, .bool, .bool, .bool, .bool, .bool, .bool, .bool, .bool, .bool, .bool, .bool, .bool, .bool, .bool, .bool, .bool, .bool, .bool, .bool, .bool, .bool, .bool, .bool, .bool, .bool, .bool, .bool, .bool, .bool, .bool, .bool, .bool, .bool]⟩
noncomputable def ti372 : TI := ⟨.func, 1, 8, [.nilFunc], none⟩
noncomputable def ti373 : TI := ⟨(.ptr 375), 1, 8, [.nilPtr], none⟩
noncomputable def ti374 : TI := ⟨(.struct [(0, 9)]), 1, 16, [.str []], some [.str]⟩
noncomputable def ti375 : TI := ⟨(.struct [(0, 9)]), 1, 16, [.str []], some [.str]⟩
noncomputable def ti376 : TI := ⟨.func, 1, 8, [.nilFunc], none⟩
noncomputable def ti377 : TI := ⟨.func, 1, 8, [.nilFunc], none⟩
noncomputable def ti378 : TI := ⟨.func, 1, 8, [.nilFunc], none⟩
noncomputable def ti379 : TI := ⟨(.struct [(0, 17), (1, 17), (2, 17), (3, 9)]), 4, 40, [.nilPtr, .nilPtr, .nilPtr, .str []], none⟩
noncomputable def ti380 : TI := ⟨(.struct [(0, 17), (1, 17), (2, 17), (3, 9)]), 4, 40, [.nilPtr, .nilPtr, .nilPtr, .str []], none⟩
noncomputable def ti381 : TI := ⟨(.arr 0 16), 0, 0, [], none⟩
noncomputable def ti382 : TI := ⟨(.struct [(0, 381)]), 0, 0, [], none⟩
noncomputable def ti383 : TI := ⟨(.struct [(0, 381)]), 0, 0, [], none⟩
noncomputable def ti384 : TI := ⟨(.int .u8), 1, 1, [.int .u8 (.ofNat 0)], some [.int .u8]⟩
noncomputable def ti385 : TI := ⟨(.int .u8), 1, 1, [.int .u8 (.ofNat 0)], some [.int .u8]⟩
noncomputable def ti386 : TI := ⟨.func, 1, 8, [.nilFunc], none⟩
noncomputable def ti387 : TI := ⟨(.int .i32), 1, 4, [.int .i32 (.ofNat 0)], some [.int .i32]⟩
noncomputable def ti388 : TI := ⟨(.int .i32), 1, 4, [.int .i32 (.ofNat 0)], some [.int .i32]⟩
noncomputable def ti389 : TI := ⟨(.struct [(0, 12), (1, 12), (2, 244), (3, 384), (4, 5), (5, 5), (6, 385), (7, 386), (8, 217), (9, 387), (10, 388)]), 11, 48, [.int .u64 (.ofNat 0), .int .u64 (.ofNat 0), .int .u32 (.ofNat 0), .int .u8 (.ofNat 0), .int .u8 (.ofNat 0), .int .u8 (.ofNat 0), .int .u8 (.ofNat 0), .nilFunc, .nilPtr, .int .i32 (.ofNat 0), .int .i32 (.ofNat 0)], none⟩
noncomputable def ti390 : TI := ⟨(.struct [(0, 12), (1, 12), (2, 244), (3, 384), (4, 5), (5, 5), (6, 385), (7, 386), (8, 217), (9, 387), (10, 388)]), 11, 48, [.int .u64 (.ofNat 0), .int .u64 (.ofNat 0), .int .u32 (.ofNat 0), .int .u8 (.ofNat 0), .int .u8 (.ofNat 0), .int .u8 (.ofNat 0), .int .u8 (.ofNat 0), .nilFunc, .nilPtr, .int .i32 (.ofNat 0), .int .i32 (.ofNat 0)], none⟩
noncomputable def ty255x256 : Tr TI := Tr.node Tr.nil (some ti255) Tr.nil
noncomputable def ty383x256 : Tr TI := Tr.node Tr.nil (some ti383) Tr.nil
noncomputable def ty127x128 : Tr TI := Tr.node ty255x256 (none) ty383x256
noncomputable def ty319x256 : Tr TI := Tr.node Tr.nil (some ti319) Tr.nil
noncomputable def ty191x128 : Tr TI := Tr.node ty319x256 (some ti191) Tr.nil
noncomputable def ty63x64 : Tr TI := Tr.node ty127x128 (some ti63) ty191x128
noncomputable def ty287x256 : Tr TI := Tr.node Tr.nil (some ti287) Tr.nil
noncomputable def ty159x128 : Tr TI := Tr.node ty287x256 (some ti159) Tr.nil
noncomputable def ty351x256 : Tr TI := Tr.node Tr.nil (some ti351) Tr.nil
noncomputable def ty223x128 : Tr TI := Tr.node ty351x256 (some ti223) Tr.nil
noncomputable def ty95x64 : Tr TI := Tr.node ty159x128 (some ti95) ty223x128
noncomputable def ty31x32 : Tr TI := Tr.node ty63x64 (some ti31) ty95x64
noncomputable def ty271x256 : Tr TI := Tr.node Tr.nil (some ti271) Tr.nil
noncomputable def ty143x128 : Tr TI := Tr.node ty271x256 (none) Tr.nil
noncomputable def ty335x256 : Tr TI := Tr.node Tr.nil (none) Tr.nil
noncomputable def ty207x128 : Tr TI := Tr.node ty335x256 (some ti207) Tr.nil
noncomputable def ty79x64 : Tr TI := Tr.node ty143x128 (some ti79) ty207x128
noncomputable def ty303x256 : Tr TI := Tr.node Tr.nil (none) Tr.nil
noncomputable def ty175x128 : Tr TI := Tr.node ty303x256 (some ti175) Tr.nil
noncomputable def ty367x256 : Tr TI := Tr.node Tr.nil (some ti367) Tr.nil
noncomputable def ty239x128 : Tr TI := Tr.node ty367x256 (some ti239) Tr.nil
noncomputable def ty111x64 : Tr TI := Tr.node ty175x128 (some ti111) ty239x128
noncomputable def ty47x32 : Tr TI := Tr.node ty79x64 (some ti47) ty111x64
noncomputable def ty15x16 : Tr TI := Tr.node ty31x32 (some ti15) ty47x32
noncomputable def ty263x256 : Tr TI := Tr.node Tr.nil (some ti263) Tr.nil
noncomputable def ty135x128 : Tr TI := Tr.node ty263x256 (some ti135) Tr.nil
noncomputable def ty327x256 : Tr TI := Tr.node Tr.nil (some ti327) Tr.nil
noncomputable def ty199x128 : Tr TI := Tr.node ty327x256 (some ti199) Tr.nil
noncomputable def ty71x64 : Tr TI := Tr.node ty135x128 (none) ty199x128
noncomputable def ty295x256 : Tr TI := Tr.node Tr.nil (some ti295) Tr.nil
noncomputable def ty167x128 : Tr TI := Tr.node ty295x256 (some ti167) Tr.nil
noncomputable def ty359x256 : Tr TI := Tr.node Tr.nil (some ti359) Tr.nil
noncomputable def ty231x128 : Tr TI := Tr.node ty359x256 (some ti231) Tr.nil
noncomputable def ty103x64 : Tr TI := Tr.node ty167x128 (some ti103) ty231x128
noncomputable def ty39x32 : Tr TI := Tr.node ty71x64 (none) ty103x64
noncomputable def ty279x256 : Tr TI := Tr.node Tr.nil (none) Tr.nil
noncomputable def ty151x128 : Tr TI := Tr.node ty279x256 (some ti151) Tr.nil
noncomputable def ty343x256 : Tr TI := Tr.node Tr.nil (some ti343) Tr.nil
noncomputable def ty215x128 : Tr TI := Tr.node ty343x256 (some ti215) Tr.nil
noncomputable def ty87x64 : Tr TI := Tr.node ty151x128 (some ti87) ty215x128
noncomputable def ty311x256 : Tr TI := Tr.node Tr.nil (some ti311) Tr.nil
noncomputable def ty183x128 : Tr TI := Tr.node ty311x256 (some ti183) Tr.nil
noncomputable def ty375x256 : Tr TI := Tr.node Tr.nil (some ti375) Tr.nil
noncomputable def ty247x128 : Tr TI := Tr.node ty375x256 (some ti247) Tr.nil
noncomputable def ty119x64 : Tr TI := Tr.node ty183x128 (some ti119) ty247x128
noncomputable def ty55x32 : Tr TI := Tr.node ty87x64 (some ti55) ty119x64
noncomputable def ty23x16 : Tr TI := Tr.node ty39x32 (some ti23) ty55x32
noncomputable def ty7x8 : Tr TI := Tr.node ty15x16 (some ti7) ty23x16
noncomputable def ty259x256 : Tr TI := Tr.node Tr.nil (some ti259) Tr.nil
noncomputable def ty387x256 : Tr TI := Tr.node Tr.nil (some ti387) Tr.nil
noncomputable def ty131x128 : Tr TI := Tr.node ty259x256 (some ti131) ty387x256
noncomputable def ty323x256 : Tr TI := Tr.node Tr.nil (some ti323) Tr.nil
noncomputable def ty195x128 : Tr TI := Tr.node ty323x256 (some ti195) Tr.nil
noncomputable def ty67x64 : Tr TI := Tr.node ty131x128 (some ti67) ty195x128
noncomputable def ty291x256 : Tr TI := Tr.node Tr.nil (some ti291) Tr.nil
noncomputable def ty163x128 : Tr TI := Tr.node ty291x256 (some ti163) Tr.nil
noncomputable def ty355x256 : Tr TI := Tr.node Tr.nil (some ti355) Tr.nil
noncomputable def ty227x128 : Tr TI := Tr.node ty355x256 (some ti227) Tr.nil
noncomputable def ty99x64 : Tr TI := Tr.node ty163x128 (none) ty227x128
noncomputable def ty35x32 : Tr TI := Tr.node ty67x64 (some ti35) ty99x64
noncomputable def ty275x256 : Tr TI := Tr.node Tr.nil (some ti275) Tr.nil
noncomputable def ty147x128 : Tr TI := Tr.node ty275x256 (some ti147) Tr.nil
noncomputable def ty339x256 : Tr TI := Tr.node Tr.nil (none) Tr.nil
noncomputable def ty211x128 : Tr TI := Tr.node ty339x256 (some ti211) Tr.nil
noncomputable def ty83x64 : Tr TI := Tr.node ty147x128 (some ti83) ty211x128
noncomputable def ty307x256 : Tr TI := Tr.node Tr.nil (some ti307) Tr.nil
noncomputable def ty179x128 : Tr TI := Tr.node ty307x256 (some ti179) Tr.nil
noncomputable def ty371x256 : Tr TI := Tr.node Tr.nil (some ti371) Tr.nil
noncomputable def ty243x128 : Tr TI := Tr.node ty371x256 (some ti243) Tr.nil
noncomputable def ty115x64 : Tr TI := Tr.node ty179x128 (some ti115) ty243x128
noncomputable def ty51x32 : Tr TI := Tr.node ty83x64 (some ti51) ty115x64
noncomputable def ty19x16 : Tr TI := Tr.node ty35x32 (some ti19) ty51x32
noncomputable def ty267x256 : Tr TI := Tr.node Tr.nil (some ti267) Tr.nil
noncomputable def ty139x128 : Tr TI := Tr.node ty267x256 (some ti139) Tr.nil
noncomputable def ty331x256 : Tr TI := Tr.node Tr.nil (some ti331) Tr.nil
noncomputable def ty203x128 : Tr TI := Tr.node ty331x256 (some ti203) Tr.nil
noncomputable def ty75x64 : Tr TI := Tr.node ty139x128 (none) ty203x128
noncomputable def ty299x256 : Tr TI := Tr.node Tr.nil (none) Tr.nil
noncomputable def ty171x128 : Tr TI := Tr.node ty299x256 (some ti171) Tr.nil
noncomputable def ty363x256 : Tr TI := Tr.node Tr.nil (some ti363) Tr.nil
noncomputable def ty235x128 : Tr TI := Tr.node ty363x256 (some ti235) Tr.nil
noncomputable def ty107x64 : Tr TI := Tr.node ty171x128 (some ti107) ty235x128
noncomputable def ty43x32 : Tr TI := Tr.node ty75x64 (some ti43) ty107x64
noncomputable def ty283x256 : Tr TI := Tr.node Tr.nil (some ti283) Tr.nil
noncomputable def ty155x128 : Tr TI := Tr.node ty283x256 (some ti155) Tr.nil
noncomputable def ty347x256 : Tr TI := Tr.node Tr.nil (some ti347) Tr.nil
noncomputable def ty219x128 : Tr TI := Tr.node ty347x256 (none) Tr.nil
noncomputable def ty91x64 : Tr TI := Tr.node ty155x128 (none) ty219x128
noncomputable def ty315x256 : Tr TI := Tr.node Tr.nil (some ti315) Tr.nil
noncomputable def ty187x128 : Tr TI := Tr.node ty315x256 (some ti187) Tr.nil
noncomputable def ty379x256 : Tr TI := Tr.node Tr.nil (some ti379) Tr.nil
noncomputable def ty251x128 : Tr TI := Tr.node ty379x256 (some ti251) Tr.nil
noncomputable def ty123x64 : Tr TI := Tr.node ty187x128 (some ti123) ty251x128
noncomputable def ty59x32 : Tr TI := Tr.node ty91x64 (none) ty123x64
noncomputable def ty27x16 : Tr TI := Tr.node ty43x32 (some ti27) ty59x32
noncomputable def ty11x8 : Tr TI := Tr.node ty19x16 (some ti11) ty27x16
noncomputable def ty3x4 : Tr TI := Tr.node ty7x8 (some ti3) ty11x8
noncomputable def ty257x256 : Tr TI := Tr.node Tr.nil (some ti257) Tr.nil
noncomputable def ty385x256 : Tr TI := Tr.node Tr.nil (some ti385) Tr.nil
noncomputable def ty129x128 : Tr TI := Tr.node ty257x256 (some ti129) ty385x256
noncomputable def ty321x256 : Tr TI := Tr.node Tr.nil (none) Tr.nil
noncomputable def ty193x128 : Tr TI := Tr.node ty321x256 (some ti193) Tr.nil
noncomputable def ty65x64 : Tr TI := Tr.node ty129x128 (some ti65) ty193x128
noncomputable def ty289x256 : Tr TI := Tr.node Tr.nil (some ti289) Tr.nil
noncomputable def ty161x128 : Tr TI := Tr.node ty289x256 (some ti161) Tr.nil
noncomputable def ty353x256 : Tr TI := Tr.node Tr.nil (some ti353) Tr.nil
noncomputable def ty225x128 : Tr TI := Tr.node ty353x256 (some ti225) Tr.nil
noncomputable def ty97x64 : Tr TI := Tr.node ty161x128 (some ti97) ty225x128
noncomputable def ty33x32 : Tr TI := Tr.node ty65x64 (some ti33) ty97x64
noncomputable def ty273x256 : Tr TI := Tr.node Tr.nil (some ti273) Tr.nil
noncomputable def ty145x128 : Tr TI := Tr.node ty273x256 (some ti145) Tr.nil
noncomputable def ty337x256 : Tr TI := Tr.node Tr.nil (some ti337) Tr.nil
noncomputable def ty209x128 : Tr TI := Tr.node ty337x256 (some ti209) Tr.nil
noncomputable def ty81x64 : Tr TI := Tr.node ty145x128 (some ti81) ty209x128
noncomputable def ty305x256 : Tr TI := Tr.node Tr.nil (some ti305) Tr.nil
noncomputable def ty177x128 : Tr TI := Tr.node ty305x256 (some ti177) Tr.nil
noncomputable def ty369x256 : Tr TI := Tr.node Tr.nil (some ti369) Tr.nil
noncomputable def ty241x128 : Tr TI := Tr.node ty369x256 (some ti241) Tr.nil
noncomputable def ty113x64 : Tr TI := Tr.node ty177x128 (some ti113) ty241x128
noncomputable def ty49x32 : Tr TI := Tr.node ty81x64 (some ti49) ty113x64
noncomputable def ty17x16 : Tr TI := Tr.node ty33x32 (some ti17) ty49x32
noncomputable def ty265x256 : Tr TI := Tr.node Tr.nil (some ti265) Tr.nil
noncomputable def ty137x128 : Tr TI := Tr.node ty265x256 (some ti137) Tr.nil
noncomputable def ty329x256 : Tr TI := Tr.node Tr.nil (some ti329) Tr.nil
noncomputable def ty201x128 : Tr TI := Tr.node ty329x256 (some ti201) Tr.nil
noncomputable def ty73x64 : Tr TI := Tr.node ty137x128 (some ti73) ty201x128
noncomputable def ty297x256 : Tr TI := Tr.node Tr.nil (some ti297) Tr.nil
noncomputable def ty169x128 : Tr TI := Tr.node ty297x256 (some ti169) Tr.nil
noncomputable def ty361x256 : Tr TI := Tr.node Tr.nil (some ti361) Tr.nil
noncomputable def ty233x128 : Tr TI := Tr.node ty361x256 (some ti233) Tr.nil
noncomputable def ty105x64 : Tr TI := Tr.node ty169x128 (some ti105) ty233x128
noncomputable def ty41x32 : Tr TI := Tr.node ty73x64 (some ti41) ty105x64
noncomputable def ty281x256 : Tr TI := Tr.node Tr.nil (some ti281) Tr.nil
noncomputable def ty153x128 : Tr TI := Tr.node ty281x256 (some ti153) Tr.nil
noncomputable def ty345x256 : Tr TI := Tr.node Tr.nil (some ti345) Tr.nil
noncomputable def ty217x128 : Tr TI := Tr.node ty345x256 (some ti217) Tr.nil
noncomputable def ty89x64 : Tr TI := Tr.node ty153x128 (some ti89) ty217x128
noncomputable def ty313x256 : Tr TI := Tr.node Tr.nil (some ti313) Tr.nil
noncomputable def ty185x128 : Tr TI := Tr.node ty313x256 (some ti185) Tr.nil
noncomputable def ty377x256 : Tr TI := Tr.node Tr.nil (some ti377) Tr.nil
noncomputable def ty249x128 : Tr TI := Tr.node ty377x256 (some ti249) Tr.nil
noncomputable def ty121x64 : Tr TI := Tr.node ty185x128 (some ti121) ty249x128
noncomputable def ty57x32 : Tr TI := Tr.node ty89x64 (some ti57) ty121x64
noncomputable def ty25x16 : Tr TI := Tr.node ty41x32 (some ti25) ty57x32
noncomputable def ty9x8 : Tr TI := Tr.node ty17x16 (some ti9) ty25x16
noncomputable def ty261x256 : Tr TI := Tr.node Tr.nil (none) Tr.nil
noncomputable def ty389x256 : Tr TI := Tr.node Tr.nil (some ti389) Tr.nil
noncomputable def ty133x128 : Tr TI := Tr.node ty261x256 (some ti133) ty389x256
noncomputable def ty325x256 : Tr TI := Tr.node Tr.nil (some ti325) Tr.nil
noncomputable def ty197x128 : Tr TI := Tr.node ty325x256 (some ti197) Tr.nil
noncomputable def ty69x64 : Tr TI := Tr.node ty133x128 (some ti69) ty197x128
noncomputable def ty293x256 : Tr TI := Tr.node Tr.nil (some ti293) Tr.nil
noncomputable def ty165x128 : Tr TI := Tr.node ty293x256 (none) Tr.nil
noncomputable def ty357x256 : Tr TI := Tr.node Tr.nil (none) Tr.nil
noncomputable def ty229x128 : Tr TI := Tr.node ty357x256 (some ti229) Tr.nil
noncomputable def ty101x64 : Tr TI := Tr.node ty165x128 (some ti101) ty229x128
noncomputable def ty37x32 : Tr TI := Tr.node ty69x64 (some ti37) ty101x64
noncomputable def ty277x256 : Tr TI := Tr.node Tr.nil (some ti277) Tr.nil
noncomputable def ty149x128 : Tr TI := Tr.node ty277x256 (none) Tr.nil
noncomputable def ty341x256 : Tr TI := Tr.node Tr.nil (some ti341) Tr.nil
noncomputable def ty213x128 : Tr TI := Tr.node ty341x256 (some ti213) Tr.nil
noncomputable def ty85x64 : Tr TI := Tr.node ty149x128 (some ti85) ty213x128
noncomputable def ty309x256 : Tr TI := Tr.node Tr.nil (none) Tr.nil
noncomputable def ty181x128 : Tr TI := Tr.node ty309x256 (some ti181) Tr.nil
noncomputable def ty373x256 : Tr TI := Tr.node Tr.nil (some ti373) Tr.nil
noncomputable def ty245x128 : Tr TI := Tr.node ty373x256 (some ti245) Tr.nil
noncomputable def ty117x64 : Tr TI := Tr.node ty181x128 (some ti117) ty245x128
noncomputable def ty53x32 : Tr TI := Tr.node ty85x64 (some ti53) ty117x64
noncomputable def ty21x16 : Tr TI := Tr.node ty37x32 (some ti21) ty53x32
noncomputable def ty269x256 : Tr TI := Tr.node Tr.nil (some ti269) Tr.nil
noncomputable def ty141x128 : Tr TI := Tr.node ty269x256 (some ti141) Tr.nil
noncomputable def ty333x256 : Tr TI := Tr.node Tr.nil (some ti333) Tr.nil
noncomputable def ty205x128 : Tr TI := Tr.node ty333x256 (some ti205) Tr.nil
noncomputable def ty77x64 : Tr TI := Tr.node ty141x128 (some ti77) ty205x128
noncomputable def ty301x256 : Tr TI := Tr.node Tr.nil (some ti301) Tr.nil
noncomputable def ty173x128 : Tr TI := Tr.node ty301x256 (some ti173) Tr.nil
noncomputable def ty365x256 : Tr TI := Tr.node Tr.nil (some ti365) Tr.nil
noncomputable def ty237x128 : Tr TI := Tr.node ty365x256 (some ti237) Tr.nil
noncomputable def ty109x64 : Tr TI := Tr.node ty173x128 (some ti109) ty237x128
noncomputable def ty45x32 : Tr TI := Tr.node ty77x64 (some ti45) ty109x64
noncomputable def ty285x256 : Tr TI := Tr.node Tr.nil (some ti285) Tr.nil
noncomputable def ty157x128 : Tr TI := Tr.node ty285x256 (some ti157) Tr.nil
noncomputable def ty349x256 : Tr TI := Tr.node Tr.nil (some ti349) Tr.nil
noncomputable def ty221x128 : Tr TI := Tr.node ty349x256 (some ti221) Tr.nil
noncomputable def ty93x64 : Tr TI := Tr.node ty157x128 (some ti93) ty221x128
noncomputable def ty317x256 : Tr TI := Tr.node Tr.nil (some ti317) Tr.nil
noncomputable def ty189x128 : Tr TI := Tr.node ty317x256 (some ti189) Tr.nil
noncomputable def ty381x256 : Tr TI := Tr.node Tr.nil (some ti381) Tr.nil
noncomputable def ty253x128 : Tr TI := Tr.node ty381x256 (some ti253) Tr.nil
noncomputable def ty125x64 : Tr TI := Tr.node ty189x128 (some ti125) ty253x128
noncomputable def ty61x32 : Tr TI := Tr.node ty93x64 (some ti61) ty125x64
noncomputable def ty29x16 : Tr TI := Tr.node ty45x32 (none) ty61x32
noncomputable def ty13x8 : Tr TI := Tr.node ty21x16 (some ti13) ty29x16
noncomputable def ty5x4 : Tr TI := Tr.node ty9x8 (some ti5) ty13x8
noncomputable def ty1x2 : Tr TI := Tr.node ty3x4 (some ti1) ty5x4
noncomputable def ty256x256 : Tr TI := Tr.node Tr.nil (some ti256) Tr.nil
noncomputable def ty384x256 : Tr TI := Tr.node Tr.nil (some ti384) Tr.nil
noncomputable def ty128x128 : Tr TI := Tr.node ty256x256 (some ti128) ty384x256
noncomputable def ty320x256 : Tr TI := Tr.node Tr.nil (some ti320) Tr.nil
noncomputable def ty192x128 : Tr TI := Tr.node ty320x256 (some ti192) Tr.nil
noncomputable def ty64x64 : Tr TI := Tr.node ty128x128 (some ti64) ty192x128
noncomputable def ty288x256 : Tr TI := Tr.node Tr.nil (none) Tr.nil
noncomputable def ty160x128 : Tr TI := Tr.node ty288x256 (some ti160) Tr.nil
noncomputable def ty352x256 : Tr TI := Tr.node Tr.nil (some ti352) Tr.nil
noncomputable def ty224x128 : Tr TI := Tr.node ty352x256 (some ti224) Tr.nil
noncomputable def ty96x64 : Tr TI := Tr.node ty160x128 (some ti96) ty224x128
noncomputable def ty32x32 : Tr TI := Tr.node ty64x64 (some ti32) ty96x64
noncomputable def ty272x256 : Tr TI := Tr.node Tr.nil (some ti272) Tr.nil
noncomputable def ty144x128 : Tr TI := Tr.node ty272x256 (some ti144) Tr.nil
noncomputable def ty336x256 : Tr TI := Tr.node Tr.nil (some ti336) Tr.nil
noncomputable def ty208x128 : Tr TI := Tr.node ty336x256 (some ti208) Tr.nil
noncomputable def ty80x64 : Tr TI := Tr.node ty144x128 (some ti80) ty208x128
noncomputable def ty304x256 : Tr TI := Tr.node Tr.nil (some ti304) Tr.nil
noncomputable def ty176x128 : Tr TI := Tr.node ty304x256 (none) Tr.nil
noncomputable def ty368x256 : Tr TI := Tr.node Tr.nil (some ti368) Tr.nil
noncomputable def ty240x128 : Tr TI := Tr.node ty368x256 (some ti240) Tr.nil
noncomputable def ty112x64 : Tr TI := Tr.node ty176x128 (some ti112) ty240x128
noncomputable def ty48x32 : Tr TI := Tr.node ty80x64 (some ti48) ty112x64
noncomputable def ty16x16 : Tr TI := Tr.node ty32x32 (some ti16) ty48x32
noncomputable def ty264x256 : Tr TI := Tr.node Tr.nil (some ti264) Tr.nil
noncomputable def ty136x128 : Tr TI := Tr.node ty264x256 (some ti136) Tr.nil
noncomputable def ty328x256 : Tr TI := Tr.node Tr.nil (some ti328) Tr.nil
noncomputable def ty200x128 : Tr TI := Tr.node ty328x256 (some ti200) Tr.nil
noncomputable def ty72x64 : Tr TI := Tr.node ty136x128 (some ti72) ty200x128
noncomputable def ty296x256 : Tr TI := Tr.node Tr.nil (some ti296) Tr.nil
noncomputable def ty168x128 : Tr TI := Tr.node ty296x256 (some ti168) Tr.nil
noncomputable def ty360x256 : Tr TI := Tr.node Tr.nil (some ti360) Tr.nil
noncomputable def ty232x128 : Tr TI := Tr.node ty360x256 (some ti232) Tr.nil
noncomputable def ty104x64 : Tr TI := Tr.node ty168x128 (some ti104) ty232x128
noncomputable def ty40x32 : Tr TI := Tr.node ty72x64 (some ti40) ty104x64
noncomputable def ty280x256 : Tr TI := Tr.node Tr.nil (some ti280) Tr.nil
noncomputable def ty152x128 : Tr TI := Tr.node ty280x256 (none) Tr.nil
noncomputable def ty344x256 : Tr TI := Tr.node Tr.nil (none) Tr.nil
noncomputable def ty216x128 : Tr TI := Tr.node ty344x256 (some ti216) Tr.nil
noncomputable def ty88x64 : Tr TI := Tr.node ty152x128 (some ti88) ty216x128
noncomputable def ty312x256 : Tr TI := Tr.node Tr.nil (some ti312) Tr.nil
noncomputable def ty184x128 : Tr TI := Tr.node ty312x256 (some ti184) Tr.nil
noncomputable def ty376x256 : Tr TI := Tr.node Tr.nil (some ti376) Tr.nil
noncomputable def ty248x128 : Tr TI := Tr.node ty376x256 (some ti248) Tr.nil
noncomputable def ty120x64 : Tr TI := Tr.node ty184x128 (some ti120) ty248x128
noncomputable def ty56x32 : Tr TI := Tr.node ty88x64 (some ti56) ty120x64
noncomputable def ty24x16 : Tr TI := Tr.node ty40x32 (some ti24) ty56x32
noncomputable def ty8x8 : Tr TI := Tr.node ty16x16 (some ti8) ty24x16
noncomputable def ty260x256 : Tr TI := Tr.node Tr.nil (some ti260) Tr.nil
noncomputable def ty388x256 : Tr TI := Tr.node Tr.nil (some ti388) Tr.nil
noncomputable def ty132x128 : Tr TI := Tr.node ty260x256 (some ti132) ty388x256
noncomputable def ty324x256 : Tr TI := Tr.node Tr.nil (some ti324) Tr.nil
noncomputable def ty196x128 : Tr TI := Tr.node ty324x256 (some ti196) Tr.nil
noncomputable def ty68x64 : Tr TI := Tr.node ty132x128 (some ti68) ty196x128
noncomputable def ty292x256 : Tr TI := Tr.node Tr.nil (some ti292) Tr.nil
noncomputable def ty164x128 : Tr TI := Tr.node ty292x256 (some ti164) Tr.nil
noncomputable def ty356x256 : Tr TI := Tr.node Tr.nil (some ti356) Tr.nil
noncomputable def ty228x128 : Tr TI := Tr.node ty356x256 (some ti228) Tr.nil
noncomputable def ty100x64 : Tr TI := Tr.node ty164x128 (some ti100) ty228x128
noncomputable def ty36x32 : Tr TI := Tr.node ty68x64 (some ti36) ty100x64
noncomputable def ty276x256 : Tr TI := Tr.node Tr.nil (some ti276) Tr.nil
noncomputable def ty148x128 : Tr TI := Tr.node ty276x256 (some ti148) Tr.nil
noncomputable def ty340x256 : Tr TI := Tr.node Tr.nil (some ti340) Tr.nil
noncomputable def ty212x128 : Tr TI := Tr.node ty340x256 (some ti212) Tr.nil
noncomputable def ty84x64 : Tr TI := Tr.node ty148x128 (some ti84) ty212x128
noncomputable def ty308x256 : Tr TI := Tr.node Tr.nil (some ti308) Tr.nil
noncomputable def ty180x128 : Tr TI := Tr.node ty308x256 (some ti180) Tr.nil
noncomputable def ty372x256 : Tr TI := Tr.node Tr.nil (some ti372) Tr.nil
noncomputable def ty244x128 : Tr TI := Tr.node ty372x256 (some ti244) Tr.nil
noncomputable def ty116x64 : Tr TI := Tr.node ty180x128 (none) ty244x128
noncomputable def ty52x32 : Tr TI := Tr.node ty84x64 (some ti52) ty116x64
noncomputable def ty20x16 : Tr TI := Tr.node ty36x32 (some ti20) ty52x32
noncomputable def ty268x256 : Tr TI := Tr.node Tr.nil (some ti268) Tr.nil
noncomputable def ty140x128 : Tr TI := Tr.node ty268x256 (some ti140) Tr.nil
noncomputable def ty332x256 : Tr TI := Tr.node Tr.nil (some ti332) Tr.nil
noncomputable def ty204x128 : Tr TI := Tr.node ty332x256 (some ti204) Tr.nil
noncomputable def ty76x64 : Tr TI := Tr.node ty140x128 (some ti76) ty204x128
noncomputable def ty300x256 : Tr TI := Tr.node Tr.nil (some ti300) Tr.nil
noncomputable def ty172x128 : Tr TI := Tr.node ty300x256 (some ti172) Tr.nil
noncomputable def ty364x256 : Tr TI := Tr.node Tr.nil (some ti364) Tr.nil
noncomputable def ty236x128 : Tr TI := Tr.node ty364x256 (some ti236) Tr.nil
noncomputable def ty108x64 : Tr TI := Tr.node ty172x128 (some ti108) ty236x128
noncomputable def ty44x32 : Tr TI := Tr.node ty76x64 (none) ty108x64
noncomputable def ty284x256 : Tr TI := Tr.node Tr.nil (some ti284) Tr.nil
noncomputable def ty156x128 : Tr TI := Tr.node ty284x256 (some ti156) Tr.nil
noncomputable def ty348x256 : Tr TI := Tr.node Tr.nil (some ti348) Tr.nil
noncomputable def ty220x128 : Tr TI := Tr.node ty348x256 (some ti220) Tr.nil
noncomputable def ty92x64 : Tr TI := Tr.node ty156x128 (some ti92) ty220x128
noncomputable def ty316x256 : Tr TI := Tr.node Tr.nil (some ti316) Tr.nil
noncomputable def ty188x128 : Tr TI := Tr.node ty316x256 (some ti188) Tr.nil
noncomputable def ty380x256 : Tr TI := Tr.node Tr.nil (some ti380) Tr.nil
noncomputable def ty252x128 : Tr TI := Tr.node ty380x256 (some ti252) Tr.nil
noncomputable def ty124x64 : Tr TI := Tr.node ty188x128 (some ti124) ty252x128
noncomputable def ty60x32 : Tr TI := Tr.node ty92x64 (some ti60) ty124x64
noncomputable def ty28x16 : Tr TI := Tr.node ty44x32 (some ti28) ty60x32
noncomputable def ty12x8 : Tr TI := Tr.node ty20x16 (some ti12) ty28x16
noncomputable def ty4x4 : Tr TI := Tr.node ty8x8 (some ti4) ty12x8
noncomputable def ty258x256 : Tr TI := Tr.node Tr.nil (none) Tr.nil
noncomputable def ty386x256 : Tr TI := Tr.node Tr.nil (some ti386) Tr.nil
noncomputable def ty130x128 : Tr TI := Tr.node ty258x256 (some ti130) ty386x256
noncomputable def ty322x256 : Tr TI := Tr.node Tr.nil (some ti322) Tr.nil
noncomputable def ty194x128 : Tr TI := Tr.node ty322x256 (some ti194) Tr.nil
noncomputable def ty66x64 : Tr TI := Tr.node ty130x128 (none) ty194x128
noncomputable def ty290x256 : Tr TI := Tr.node Tr.nil (some ti290) Tr.nil
noncomputable def ty162x128 : Tr TI := Tr.node ty290x256 (some ti162) Tr.nil
noncomputable def ty354x256 : Tr TI := Tr.node Tr.nil (some ti354) Tr.nil
noncomputable def ty226x128 : Tr TI := Tr.node ty354x256 (none) Tr.nil
noncomputable def ty98x64 : Tr TI := Tr.node ty162x128 (some ti98) ty226x128
noncomputable def ty34x32 : Tr TI := Tr.node ty66x64 (some ti34) ty98x64
noncomputable def ty274x256 : Tr TI := Tr.node Tr.nil (some ti274) Tr.nil
noncomputable def ty146x128 : Tr TI := Tr.node ty274x256 (some ti146) Tr.nil
noncomputable def ty338x256 : Tr TI := Tr.node Tr.nil (some ti338) Tr.nil
noncomputable def ty210x128 : Tr TI := Tr.node ty338x256 (some ti210) Tr.nil
noncomputable def ty82x64 : Tr TI := Tr.node ty146x128 (some ti82) ty210x128
noncomputable def ty306x256 : Tr TI := Tr.node Tr.nil (some ti306) Tr.nil
noncomputable def ty178x128 : Tr TI := Tr.node ty306x256 (some ti178) Tr.nil
noncomputable def ty370x256 : Tr TI := Tr.node Tr.nil (some ti370) Tr.nil
noncomputable def ty242x128 : Tr TI := Tr.node ty370x256 (some ti242) Tr.nil
noncomputable def ty114x64 : Tr TI := Tr.node ty178x128 (some ti114) ty242x128
noncomputable def ty50x32 : Tr TI := Tr.node ty82x64 (some ti50) ty114x64
noncomputable def ty18x16 : Tr TI := Tr.node ty34x32 (some ti18) ty50x32
noncomputable def ty266x256 : Tr TI := Tr.node Tr.nil (some ti266) Tr.nil
noncomputable def ty138x128 : Tr TI := Tr.node ty266x256 (some ti138) Tr.nil
noncomputable def ty330x256 : Tr TI := Tr.node Tr.nil (none) Tr.nil
noncomputable def ty202x128 : Tr TI := Tr.node ty330x256 (some ti202) Tr.nil
noncomputable def ty74x64 : Tr TI := Tr.node ty138x128 (some ti74) ty202x128
noncomputable def ty298x256 : Tr TI := Tr.node Tr.nil (some ti298) Tr.nil
noncomputable def ty170x128 : Tr TI := Tr.node ty298x256 (some ti170) Tr.nil
noncomputable def ty362x256 : Tr TI := Tr.node Tr.nil (some ti362) Tr.nil
noncomputable def ty234x128 : Tr TI := Tr.node ty362x256 (some ti234) Tr.nil
noncomputable def ty106x64 : Tr TI := Tr.node ty170x128 (some ti106) ty234x128
noncomputable def ty42x32 : Tr TI := Tr.node ty74x64 (some ti42) ty106x64
noncomputable def ty282x256 : Tr TI := Tr.node Tr.nil (some ti282) Tr.nil
noncomputable def ty154x128 : Tr TI := Tr.node ty282x256 (some ti154) Tr.nil
noncomputable def ty346x256 : Tr TI := Tr.node Tr.nil (some ti346) Tr.nil
noncomputable def ty218x128 : Tr TI := Tr.node ty346x256 (some ti218) Tr.nil
noncomputable def ty90x64 : Tr TI := Tr.node ty154x128 (some ti90) ty218x128
noncomputable def ty314x256 : Tr TI := Tr.node Tr.nil (some ti314) Tr.nil
noncomputable def ty186x128 : Tr TI := Tr.node ty314x256 (none) Tr.nil
noncomputable def ty378x256 : Tr TI := Tr.node Tr.nil (some ti378) Tr.nil
noncomputable def ty250x128 : Tr TI := Tr.node ty378x256 (some ti250) Tr.nil
noncomputable def ty122x64 : Tr TI := Tr.node ty186x128 (some ti122) ty250x128
noncomputable def ty58x32 : Tr TI := Tr.node ty90x64 (some ti58) ty122x64
noncomputable def ty26x16 : Tr TI := Tr.node ty42x32 (some ti26) ty58x32
noncomputable def ty10x8 : Tr TI := Tr.node ty18x16 (some ti10) ty26x16
noncomputable def ty262x256 : Tr TI := Tr.node Tr.nil (some ti262) Tr.nil
noncomputable def ty390x256 : Tr TI := Tr.node Tr.nil (some ti390) Tr.nil
noncomputable def ty134x128 : Tr TI := Tr.node ty262x256 (some ti134) ty390x256
noncomputable def ty326x256 : Tr TI := Tr.node Tr.nil (none) Tr.nil
noncomputable def ty198x128 : Tr TI := Tr.node ty326x256 (none) Tr.nil
noncomputable def ty70x64 : Tr TI := Tr.node ty134x128 (some ti70) ty198x128
noncomputable def ty294x256 : Tr TI := Tr.node Tr.nil (some ti294) Tr.nil
noncomputable def ty166x128 : Tr TI := Tr.node ty294x256 (some ti166) Tr.nil
noncomputable def ty358x256 : Tr TI := Tr.node Tr.nil (none) Tr.nil
noncomputable def ty230x128 : Tr TI := Tr.node ty358x256 (some ti230) Tr.nil
noncomputable def ty102x64 : Tr TI := Tr.node ty166x128 (none) ty230x128
noncomputable def ty38x32 : Tr TI := Tr.node ty70x64 (some ti38) ty102x64
noncomputable def ty278x256 : Tr TI := Tr.node Tr.nil (some ti278) Tr.nil
noncomputable def ty150x128 : Tr TI := Tr.node ty278x256 (some ti150) Tr.nil
noncomputable def ty342x256 : Tr TI := Tr.node Tr.nil (some ti342) Tr.nil
noncomputable def ty214x128 : Tr TI := Tr.node ty342x256 (some ti214) Tr.nil
noncomputable def ty86x64 : Tr TI := Tr.node ty150x128 (some ti86) ty214x128
noncomputable def ty310x256 : Tr TI := Tr.node Tr.nil (some ti310) Tr.nil
noncomputable def ty182x128 : Tr TI := Tr.node ty310x256 (some ti182) Tr.nil
noncomputable def ty374x256 : Tr TI := Tr.node Tr.nil (some ti374) Tr.nil
noncomputable def ty246x128 : Tr TI := Tr.node ty374x256 (some ti246) Tr.nil
noncomputable def ty118x64 : Tr TI := Tr.node ty182x128 (some ti118) ty246x128
noncomputable def ty54x32 : Tr TI := Tr.node ty86x64 (some ti54) ty118x64
noncomputable def ty22x16 : Tr TI := Tr.node ty38x32 (some ti22) ty54x32
noncomputable def ty270x256 : Tr TI := Tr.node Tr.nil (some ti270) Tr.nil
noncomputable def ty142x128 : Tr TI := Tr.node ty270x256 (some ti142) Tr.nil
noncomputable def ty334x256 : Tr TI := Tr.node Tr.nil (some ti334) Tr.nil
noncomputable def ty206x128 : Tr TI := Tr.node ty334x256 (some ti206) Tr.nil
noncomputable def ty78x64 : Tr TI := Tr.node ty142x128 (some ti78) ty206x128
noncomputable def ty302x256 : Tr TI := Tr.node Tr.nil (some ti302) Tr.nil
noncomputable def ty174x128 : Tr TI := Tr.node ty302x256 (some ti174) Tr.nil
noncomputable def ty366x256 : Tr TI := Tr.node Tr.nil (some ti366) Tr.nil
noncomputable def ty238x128 : Tr TI := Tr.node ty366x256 (none) Tr.nil
noncomputable def ty110x64 : Tr TI := Tr.node ty174x128 (some ti110) ty238x128
noncomputable def ty46x32 : Tr TI := Tr.node ty78x64 (some ti46) ty110x64
noncomputable def ty286x256 : Tr TI := Tr.node Tr.nil (some ti286) Tr.nil
noncomputable def ty158x128 : Tr TI := Tr.node ty286x256 (some ti158) Tr.nil
noncomputable def ty350x256 : Tr TI := Tr.node Tr.nil (some ti350) Tr.nil
noncomputable def ty222x128 : Tr TI := Tr.node ty350x256 (none) Tr.nil
noncomputable def ty94x64 : Tr TI := Tr.node ty158x128 (some ti94) ty222x128
noncomputable def ty318x256 : Tr TI := Tr.node Tr.nil (some ti318) Tr.nil
noncomputable def ty190x128 : Tr TI := Tr.node ty318x256 (some ti190) Tr.nil
noncomputable def ty382x256 : Tr TI := Tr.node Tr.nil (some ti382) Tr.nil
noncomputable def ty254x128 : Tr TI := Tr.node ty382x256 (some ti254) Tr.nil
noncomputable def ty126x64 : Tr TI := Tr.node ty190x128 (some ti126) ty254x128
noncomputable def ty62x32 : Tr TI := Tr.node ty94x64 (none) ty126x64
noncomputable def ty30x16 : Tr TI := Tr.node ty46x32 (some ti30) ty62x32
noncomputable def ty14x8 : Tr TI := Tr.node ty22x16 (some ti14) ty30x16
noncomputable def ty6x4 : Tr TI := Tr.node ty10x8 (some ti6) ty14x8
noncomputable def ty2x2 : Tr TI := Tr.node ty4x4 (some ti2) ty6x4
noncomputable def ty0x1 : Tr TI := Tr.node ty1x2 (none) ty2x2
noncomputable def fu255x256 : Tr Go.Func := Tr.node Tr.nil (none) Tr.nil
noncomputable def fu127x128 : Tr Go.Func := Tr.node fu255x256 (some Tryz.f127) Tr.nil
noncomputable def fu191x128 : Tr Go.Func := Tr.node Tr.nil (some Tryz.f191) Tr.nil
noncomputable def fu63x64 : Tr Go.Func := Tr.node fu127x128 (some Tryz.f63) fu191x128
noncomputable def fu287x256 : Tr Go.Func := Tr.node Tr.nil (none) Tr.nil
noncomputable def fu159x128 : Tr Go.Func := Tr.node fu287x256 (some Tryz.f159) Tr.nil
noncomputable def fu223x128 : Tr Go.Func := Tr.node Tr.nil (some Tryz.f223) Tr.nil
noncomputable def fu95x64 : Tr Go.Func := Tr.node fu159x128 (none) fu223x128
noncomputable def fu31x32 : Tr Go.Func := Tr.node fu63x64 (some Tryz.f31) fu95x64
noncomputable def fu271x256 : Tr Go.Func := Tr.node Tr.nil (some Tryz.f271) Tr.nil
noncomputable def fu143x128 : Tr Go.Func := Tr.node fu271x256 (some Tryz.f143) Tr.nil
noncomputable def fu207x128 : Tr Go.Func := Tr.node Tr.nil (none) Tr.nil
noncomputable def fu79x64 : Tr Go.Func := Tr.node fu143x128 (none) fu207x128
noncomputable def fu303x256 : Tr Go.Func := Tr.node Tr.nil (none) Tr.nil
noncomputable def fu175x128 : Tr Go.Func := Tr.node fu303x256 (some Tryz.f175) Tr.nil
noncomputable def fu239x128 : Tr Go.Func := Tr.node Tr.nil (some Tryz.f239) Tr.nil
noncomputable def fu111x64 : Tr Go.Func := Tr.node fu175x128 (some Tryz.f111) fu239x128
noncomputable def fu47x32 : Tr Go.Func := Tr.node fu79x64 (some Tryz.f47) fu111x64
noncomputable def fu15x16 : Tr Go.Func := Tr.node fu31x32 (some Tryz.f15) fu47x32
noncomputable def fu263x256 : Tr Go.Func := Tr.node Tr.nil (some Tryz.f263) Tr.nil
noncomputable def fu135x128 : Tr Go.Func := Tr.node fu263x256 (none) Tr.nil
noncomputable def fu199x128 : Tr Go.Func := Tr.node Tr.nil (some Tryz.f199) Tr.nil
noncomputable def fu71x64 : Tr Go.Func := Tr.node fu135x128 (some Tryz.f71) fu199x128
noncomputable def fu295x256 : Tr Go.Func := Tr.node Tr.nil (none) Tr.nil
noncomputable def fu167x128 : Tr Go.Func := Tr.node fu295x256 (none) Tr.nil
noncomputable def fu231x128 : Tr Go.Func := Tr.node Tr.nil (some Tryz.f231) Tr.nil
noncomputable def fu103x64 : Tr Go.Func := Tr.node fu167x128 (none) fu231x128
noncomputable def fu39x32 : Tr Go.Func := Tr.node fu71x64 (some Tryz.f39) fu103x64
noncomputable def fu279x256 : Tr Go.Func := Tr.node Tr.nil (none) Tr.nil
noncomputable def fu151x128 : Tr Go.Func := Tr.node fu279x256 (none) Tr.nil
noncomputable def fu215x128 : Tr Go.Func := Tr.node Tr.nil (none) Tr.nil
noncomputable def fu87x64 : Tr Go.Func := Tr.node fu151x128 (some Tryz.f87) fu215x128
noncomputable def fu183x128 : Tr Go.Func := Tr.node Tr.nil (none) Tr.nil
noncomputable def fu247x128 : Tr Go.Func := Tr.node Tr.nil (none) Tr.nil
noncomputable def fu119x64 : Tr Go.Func := Tr.node fu183x128 (some Tryz.f119) fu247x128
noncomputable def fu55x32 : Tr Go.Func := Tr.node fu87x64 (some Tryz.f55) fu119x64
noncomputable def fu23x16 : Tr Go.Func := Tr.node fu39x32 (some Tryz.f23) fu55x32
noncomputable def fu7x8 : Tr Go.Func := Tr.node fu15x16 (some Tryz.f7) fu23x16
noncomputable def fu259x256 : Tr Go.Func := Tr.node Tr.nil (some Tryz.f259) Tr.nil
noncomputable def fu131x128 : Tr Go.Func := Tr.node fu259x256 (some Tryz.f131) Tr.nil
noncomputable def fu195x128 : Tr Go.Func := Tr.node Tr.nil (some Tryz.f195) Tr.nil
noncomputable def fu67x64 : Tr Go.Func := Tr.node fu131x128 (some Tryz.f67) fu195x128
noncomputable def fu291x256 : Tr Go.Func := Tr.node Tr.nil (none) Tr.nil
noncomputable def fu163x128 : Tr Go.Func := Tr.node fu291x256 (none) Tr.nil
noncomputable def fu227x128 : Tr Go.Func := Tr.node Tr.nil (some Tryz.f227) Tr.nil
noncomputable def fu99x64 : Tr Go.Func := Tr.node fu163x128 (some Tryz.f99) fu227x128
noncomputable def fu35x32 : Tr Go.Func := Tr.node fu67x64 (some Tryz.f35) fu99x64
noncomputable def fu275x256 : Tr Go.Func := Tr.node Tr.nil (none) Tr.nil
noncomputable def fu147x128 : Tr Go.Func := Tr.node fu275x256 (some Tryz.f147) Tr.nil
noncomputable def fu211x128 : Tr Go.Func := Tr.node Tr.nil (none) Tr.nil
noncomputable def fu83x64 : Tr Go.Func := Tr.node fu147x128 (none) fu211x128
noncomputable def fu307x256 : Tr Go.Func := Tr.node Tr.nil (none) Tr.nil
noncomputable def fu179x128 : Tr Go.Func := Tr.node fu307x256 (some Tryz.f179) Tr.nil
noncomputable def fu243x128 : Tr Go.Func := Tr.node Tr.nil (none) Tr.nil
noncomputable def fu115x64 : Tr Go.Func := Tr.node fu179x128 (some Tryz.f115) fu243x128
noncomputable def fu51x32 : Tr Go.Func := Tr.node fu83x64 (some Tryz.f51) fu115x64
noncomputable def fu19x16 : Tr Go.Func := Tr.node fu35x32 (some Tryz.f19) fu51x32
noncomputable def fu267x256 : Tr Go.Func := Tr.node Tr.nil (none) Tr.nil
noncomputable def fu139x128 : Tr Go.Func := Tr.node fu267x256 (none) Tr.nil
noncomputable def fu203x128 : Tr Go.Func := Tr.node Tr.nil (none) Tr.nil
noncomputable def fu75x64 : Tr Go.Func := Tr.node fu139x128 (some Tryz.f75) fu203x128
noncomputable def fu299x256 : Tr Go.Func := Tr.node Tr.nil (none) Tr.nil
noncomputable def fu171x128 : Tr Go.Func := Tr.node fu299x256 (some Tryz.f171) Tr.nil
noncomputable def fu235x128 : Tr Go.Func := Tr.node Tr.nil (none) Tr.nil
noncomputable def fu107x64 : Tr Go.Func := Tr.node fu171x128 (some Tryz.f107) fu235x128
noncomputable def fu43x32 : Tr Go.Func := Tr.node fu75x64 (none) fu107x64
noncomputable def fu283x256 : Tr Go.Func := Tr.node Tr.nil (none) Tr.nil
noncomputable def fu155x128 : Tr Go.Func := Tr.node fu283x256 (none) Tr.nil
noncomputable def fu219x128 : Tr Go.Func := Tr.node Tr.nil (some Tryz.f219) Tr.nil
noncomputable def fu91x64 : Tr Go.Func := Tr.node fu155x128 (some Tryz.f91) fu219x128
noncomputable def fu187x128 : Tr Go.Func := Tr.node Tr.nil (some Tryz.f187) Tr.nil
noncomputable def fu251x128 : Tr Go.Func := Tr.node Tr.nil (some Tryz.f251) Tr.nil
noncomputable def fu123x64 : Tr Go.Func := Tr.node fu187x128 (none) fu251x128
noncomputable def fu59x32 : Tr Go.Func := Tr.node fu91x64 (some Tryz.f59) fu123x64
noncomputable def fu27x16 : Tr Go.Func := Tr.node fu43x32 (some Tryz.f27) fu59x32
noncomputable def fu11x8 : Tr Go.Func := Tr.node fu19x16 (some Tryz.f11) fu27x16
noncomputable def fu3x4 : Tr Go.Func := Tr.node fu7x8 (some Tryz.f3) fu11x8
noncomputable def fu257x256 : Tr Go.Func := Tr.node Tr.nil (some Tryz.f257) Tr.nil
noncomputable def fu129x128 : Tr Go.Func := Tr.node fu257x256 (some Tryz.f129) Tr.nil
noncomputable def fu193x128 : Tr Go.Func := Tr.node Tr.nil (some Tryz.f193) Tr.nil
noncomputable def fu65x64 : Tr Go.Func := Tr.node fu129x128 (some Tryz.f65) fu193x128
noncomputable def fu289x256 : Tr Go.Func := Tr.node Tr.nil (none) Tr.nil
noncomputable def fu161x128 : Tr Go.Func := Tr.node fu289x256 (none) Tr.nil
noncomputable def fu225x128 : Tr Go.Func := Tr.node Tr.nil (some Tryz.f225) Tr.nil
noncomputable def fu97x64 : Tr Go.Func := Tr.node fu161x128 (some Tryz.f97) fu225x128
noncomputable def fu33x32 : Tr Go.Func := Tr.node fu65x64 (some Tryz.f33) fu97x64
noncomputable def fu273x256 : Tr Go.Func := Tr.node Tr.nil (none) Tr.nil
noncomputable def fu145x128 : Tr Go.Func := Tr.node fu273x256 (some Tryz.f145) Tr.nil
noncomputable def fu209x128 : Tr Go.Func := Tr.node Tr.nil (none) Tr.nil
noncomputable def fu81x64 : Tr Go.Func := Tr.node fu145x128 (some Tryz.f81) fu209x128
noncomputable def fu305x256 : Tr Go.Func := Tr.node Tr.nil (none) Tr.nil
noncomputable def fu177x128 : Tr Go.Func := Tr.node fu305x256 (none) Tr.nil
noncomputable def fu241x128 : Tr Go.Func := Tr.node Tr.nil (some Tryz.f241) Tr.nil
noncomputable def fu113x64 : Tr Go.Func := Tr.node fu177x128 (some Tryz.f113) fu241x128
noncomputable def fu49x32 : Tr Go.Func := Tr.node fu81x64 (none) fu113x64
noncomputable def fu17x16 : Tr Go.Func := Tr.node fu33x32 (none) fu49x32
noncomputable def fu265x256 : Tr Go.Func := Tr.node Tr.nil (none) Tr.nil
noncomputable def fu137x128 : Tr Go.Func := Tr.node fu265x256 (some Tryz.f137) Tr.nil
noncomputable def fu201x128 : Tr Go.Func := Tr.node Tr.nil (none) Tr.nil
noncomputable def fu73x64 : Tr Go.Func := Tr.node fu137x128 (some Tryz.f73) fu201x128
noncomputable def fu297x256 : Tr Go.Func := Tr.node Tr.nil (none) Tr.nil
noncomputable def fu169x128 : Tr Go.Func := Tr.node fu297x256 (none) Tr.nil
noncomputable def fu233x128 : Tr Go.Func := Tr.node Tr.nil (none) Tr.nil
noncomputable def fu105x64 : Tr Go.Func := Tr.node fu169x128 (none) fu233x128
noncomputable def fu41x32 : Tr Go.Func := Tr.node fu73x64 (some Tryz.f41) fu105x64
noncomputable def fu281x256 : Tr Go.Func := Tr.node Tr.nil (none) Tr.nil
noncomputable def fu153x128 : Tr Go.Func := Tr.node fu281x256 (none) Tr.nil
noncomputable def fu217x128 : Tr Go.Func := Tr.node Tr.nil (none) Tr.nil
noncomputable def fu89x64 : Tr Go.Func := Tr.node fu153x128 (some Tryz.f89) fu217x128
noncomputable def fu185x128 : Tr Go.Func := Tr.node Tr.nil (some Tryz.f185) Tr.nil
noncomputable def fu249x128 : Tr Go.Func := Tr.node Tr.nil (none) Tr.nil
noncomputable def fu121x64 : Tr Go.Func := Tr.node fu185x128 (some Tryz.f121) fu249x128
noncomputable def fu57x32 : Tr Go.Func := Tr.node fu89x64 (some Tryz.f57) fu121x64
noncomputable def fu25x16 : Tr Go.Func := Tr.node fu41x32 (some Tryz.f25) fu57x32
noncomputable def fu9x8 : Tr Go.Func := Tr.node fu17x16 (none) fu25x16
noncomputable def fu261x256 : Tr Go.Func := Tr.node Tr.nil (none) Tr.nil
noncomputable def fu133x128 : Tr Go.Func := Tr.node fu261x256 (none) Tr.nil
noncomputable def fu197x128 : Tr Go.Func := Tr.node Tr.nil (some Tryz.f197) Tr.nil
noncomputable def fu69x64 : Tr Go.Func := Tr.node fu133x128 (some Tryz.f69) fu197x128
noncomputable def fu293x256 : Tr Go.Func := Tr.node Tr.nil (none) Tr.nil
noncomputable def fu165x128 : Tr Go.Func := Tr.node fu293x256 (none) Tr.nil
noncomputable def fu229x128 : Tr Go.Func := Tr.node Tr.nil (some Tryz.f229) Tr.nil
noncomputable def fu101x64 : Tr Go.Func := Tr.node fu165x128 (some Tryz.f101) fu229x128
noncomputable def fu37x32 : Tr Go.Func := Tr.node fu69x64 (some Tryz.f37) fu101x64
noncomputable def fu277x256 : Tr Go.Func := Tr.node Tr.nil (none) Tr.nil
noncomputable def fu149x128 : Tr Go.Func := Tr.node fu277x256 (some Tryz.f149) Tr.nil
noncomputable def fu213x128 : Tr Go.Func := Tr.node Tr.nil (none) Tr.nil
noncomputable def fu85x64 : Tr Go.Func := Tr.node fu149x128 (some Tryz.f85) fu213x128
noncomputable def fu309x256 : Tr Go.Func := Tr.node Tr.nil (none) Tr.nil
noncomputable def fu181x128 : Tr Go.Func := Tr.node fu309x256 (none) Tr.nil
noncomputable def fu245x128 : Tr Go.Func := Tr.node Tr.nil (none) Tr.nil
noncomputable def fu117x64 : Tr Go.Func := Tr.node fu181x128 (some Tryz.f117) fu245x128
noncomputable def fu53x32 : Tr Go.Func := Tr.node fu85x64 (some Tryz.f53) fu117x64
noncomputable def fu21x16 : Tr Go.Func := Tr.node fu37x32 (some Tryz.f21) fu53x32
noncomputable def fu269x256 : Tr Go.Func := Tr.node Tr.nil (none) Tr.nil
noncomputable def fu141x128 : Tr Go.Func := Tr.node fu269x256 (some Tryz.f141) Tr.nil
noncomputable def fu205x128 : Tr Go.Func := Tr.node Tr.nil (none) Tr.nil
noncomputable def fu77x64 : Tr Go.Func := Tr.node fu141x128 (some Tryz.f77) fu205x128
noncomputable def fu301x256 : Tr Go.Func := Tr.node Tr.nil (none) Tr.nil
noncomputable def fu173x128 : Tr Go.Func := Tr.node fu301x256 (some Tryz.f173) Tr.nil
noncomputable def fu237x128 : Tr Go.Func := Tr.node Tr.nil (some Tryz.f237) Tr.nil
noncomputable def fu109x64 : Tr Go.Func := Tr.node fu173x128 (none) fu237x128
noncomputable def fu45x32 : Tr Go.Func := Tr.node fu77x64 (some Tryz.f45) fu109x64
noncomputable def fu285x256 : Tr Go.Func := Tr.node Tr.nil (none) Tr.nil
noncomputable def fu157x128 : Tr Go.Func := Tr.node fu285x256 (none) Tr.nil
noncomputable def fu221x128 : Tr Go.Func := Tr.node Tr.nil (some Tryz.f221) Tr.nil
noncomputable def fu93x64 : Tr Go.Func := Tr.node fu157x128 (none) fu221x128
noncomputable def fu189x128 : Tr Go.Func := Tr.node Tr.nil (none) Tr.nil
noncomputable def fu253x128 : Tr Go.Func := Tr.node Tr.nil (none) Tr.nil
noncomputable def fu125x64 : Tr Go.Func := Tr.node fu189x128 (none) fu253x128
noncomputable def fu61x32 : Tr Go.Func := Tr.node fu93x64 (some Tryz.f61) fu125x64
noncomputable def fu29x16 : Tr Go.Func := Tr.node fu45x32 (some Tryz.f29) fu61x32
noncomputable def fu13x8 : Tr Go.Func := Tr.node fu21x16 (some Tryz.f13) fu29x16
noncomputable def fu5x4 : Tr Go.Func := Tr.node fu9x8 (some Tryz.f5) fu13x8
noncomputable def fu1x2 : Tr Go.Func := Tr.node fu3x4 (none) fu5x4
noncomputable def fu256x256 : Tr Go.Func := Tr.node Tr.nil (some Tryz.f256) Tr.nil
noncomputable def fu128x128 : Tr Go.Func := Tr.node fu256x256 (some Tryz.f128) Tr.nil
noncomputable def fu192x128 : Tr Go.Func := Tr.node Tr.nil (some Tryz.f192) Tr.nil
noncomputable def fu64x64 : Tr Go.Func := Tr.node fu128x128 (some Tryz.f64) fu192x128
noncomputable def fu288x256 : Tr Go.Func := Tr.node Tr.nil (none) Tr.nil
noncomputable def fu160x128 : Tr Go.Func := Tr.node fu288x256 (none) Tr.nil
noncomputable def fu224x128 : Tr Go.Func := Tr.node Tr.nil (some Tryz.f224) Tr.nil
noncomputable def fu96x64 : Tr Go.Func := Tr.node fu160x128 (none) fu224x128
noncomputable def fu32x32 : Tr Go.Func := Tr.node fu64x64 (some Tryz.f32) fu96x64
noncomputable def fu272x256 : Tr Go.Func := Tr.node Tr.nil (none) Tr.nil
noncomputable def fu144x128 : Tr Go.Func := Tr.node fu272x256 (some Tryz.f144) Tr.nil
noncomputable def fu208x128 : Tr Go.Func := Tr.node Tr.nil (none) Tr.nil
noncomputable def fu80x64 : Tr Go.Func := Tr.node fu144x128 (some Tryz.f80) fu208x128
noncomputable def fu304x256 : Tr Go.Func := Tr.node Tr.nil (none) Tr.nil
noncomputable def fu176x128 : Tr Go.Func := Tr.node fu304x256 (none) Tr.nil
noncomputable def fu240x128 : Tr Go.Func := Tr.node Tr.nil (some Tryz.f240) Tr.nil
noncomputable def fu112x64 : Tr Go.Func := Tr.node fu176x128 (some Tryz.f112) fu240x128
noncomputable def fu48x32 : Tr Go.Func := Tr.node fu80x64 (none) fu112x64
noncomputable def fu16x16 : Tr Go.Func := Tr.node fu32x32 (some Tryz.f16) fu48x32
noncomputable def fu264x256 : Tr Go.Func := Tr.node Tr.nil (none) Tr.nil
noncomputable def fu136x128 : Tr Go.Func := Tr.node fu264x256 (some Tryz.f136) Tr.nil
noncomputable def fu200x128 : Tr Go.Func := Tr.node Tr.nil (some Tryz.f200) Tr.nil
noncomputable def fu72x64 : Tr Go.Func := Tr.node fu136x128 (none) fu200x128
noncomputable def fu296x256 : Tr Go.Func := Tr.node Tr.nil (none) Tr.nil
noncomputable def fu168x128 : Tr Go.Func := Tr.node fu296x256 (none) Tr.nil
noncomputable def fu232x128 : Tr Go.Func := Tr.node Tr.nil (none) Tr.nil
noncomputable def fu104x64 : Tr Go.Func := Tr.node fu168x128 (none) fu232x128
noncomputable def fu40x32 : Tr Go.Func := Tr.node fu72x64 (some Tryz.f40) fu104x64
noncomputable def fu280x256 : Tr Go.Func := Tr.node Tr.nil (none) Tr.nil
noncomputable def fu152x128 : Tr Go.Func := Tr.node fu280x256 (none) Tr.nil
noncomputable def fu216x128 : Tr Go.Func := Tr.node Tr.nil (none) Tr.nil
noncomputable def fu88x64 : Tr Go.Func := Tr.node fu152x128 (some Tryz.f88) fu216x128
noncomputable def fu184x128 : Tr Go.Func := Tr.node Tr.nil (none) Tr.nil
noncomputable def fu248x128 : Tr Go.Func := Tr.node Tr.nil (none) Tr.nil
noncomputable def fu120x64 : Tr Go.Func := Tr.node fu184x128 (some Tryz.f120) fu248x128
noncomputable def fu56x32 : Tr Go.Func := Tr.node fu88x64 (some Tryz.f56) fu120x64
noncomputable def fu24x16 : Tr Go.Func := Tr.node fu40x32 (some Tryz.f24) fu56x32
noncomputable def fu8x8 : Tr Go.Func := Tr.node fu16x16 (some Tryz.f8) fu24x16
noncomputable def fu260x256 : Tr Go.Func := Tr.node Tr.nil (none) Tr.nil
noncomputable def fu132x128 : Tr Go.Func := Tr.node fu260x256 (none) Tr.nil
noncomputable def fu196x128 : Tr Go.Func := Tr.node Tr.nil (none) Tr.nil
noncomputable def fu68x64 : Tr Go.Func := Tr.node fu132x128 (some Tryz.f68) fu196x128
noncomputable def fu292x256 : Tr Go.Func := Tr.node Tr.nil (none) Tr.nil
noncomputable def fu164x128 : Tr Go.Func := Tr.node fu292x256 (none) Tr.nil
noncomputable def fu228x128 : Tr Go.Func := Tr.node Tr.nil (some Tryz.f228) Tr.nil
noncomputable def fu100x64 : Tr Go.Func := Tr.node fu164x128 (some Tryz.f100) fu228x128
noncomputable def fu36x32 : Tr Go.Func := Tr.node fu68x64 (some Tryz.f36) fu100x64
noncomputable def fu276x256 : Tr Go.Func := Tr.node Tr.nil (none) Tr.nil
noncomputable def fu148x128 : Tr Go.Func := Tr.node fu276x256 (some Tryz.f148) Tr.nil
noncomputable def fu212x128 : Tr Go.Func := Tr.node Tr.nil (some Tryz.f212) Tr.nil
noncomputable def fu84x64 : Tr Go.Func := Tr.node fu148x128 (none) fu212x128
noncomputable def fu308x256 : Tr Go.Func := Tr.node Tr.nil (none) Tr.nil
noncomputable def fu180x128 : Tr Go.Func := Tr.node fu308x256 (none) Tr.nil
noncomputable def fu244x128 : Tr Go.Func := Tr.node Tr.nil (none) Tr.nil
noncomputable def fu116x64 : Tr Go.Func := Tr.node fu180x128 (some Tryz.f116) fu244x128
noncomputable def fu52x32 : Tr Go.Func := Tr.node fu84x64 (some Tryz.f52) fu116x64
noncomputable def fu20x16 : Tr Go.Func := Tr.node fu36x32 (some Tryz.f20) fu52x32
noncomputable def fu268x256 : Tr Go.Func := Tr.node Tr.nil (none) Tr.nil
noncomputable def fu140x128 : Tr Go.Func := Tr.node fu268x256 (none) Tr.nil
noncomputable def fu204x128 : Tr Go.Func := Tr.node Tr.nil (none) Tr.nil
noncomputable def fu76x64 : Tr Go.Func := Tr.node fu140x128 (some Tryz.f76) fu204x128
noncomputable def fu300x256 : Tr Go.Func := Tr.node Tr.nil (none) Tr.nil
noncomputable def fu172x128 : Tr Go.Func := Tr.node fu300x256 (some Tryz.f172) Tr.nil
noncomputable def fu236x128 : Tr Go.Func := Tr.node Tr.nil (some Tryz.f236) Tr.nil
noncomputable def fu108x64 : Tr Go.Func := Tr.node fu172x128 (some Tryz.f108) fu236x128
noncomputable def fu44x32 : Tr Go.Func := Tr.node fu76x64 (some Tryz.f44) fu108x64
noncomputable def fu284x256 : Tr Go.Func := Tr.node Tr.nil (none) Tr.nil
noncomputable def fu156x128 : Tr Go.Func := Tr.node fu284x256 (none) Tr.nil
noncomputable def fu220x128 : Tr Go.Func := Tr.node Tr.nil (some Tryz.f220) Tr.nil
noncomputable def fu92x64 : Tr Go.Func := Tr.node fu156x128 (some Tryz.f92) fu220x128
noncomputable def fu188x128 : Tr Go.Func := Tr.node Tr.nil (some Tryz.f188) Tr.nil
noncomputable def fu252x128 : Tr Go.Func := Tr.node Tr.nil (none) Tr.nil
noncomputable def fu124x64 : Tr Go.Func := Tr.node fu188x128 (none) fu252x128
noncomputable def fu60x32 : Tr Go.Func := Tr.node fu92x64 (some Tryz.f60) fu124x64
noncomputable def fu28x16 : Tr Go.Func := Tr.node fu44x32 (some Tryz.f28) fu60x32
noncomputable def fu12x8 : Tr Go.Func := Tr.node fu20x16 (some Tryz.f12) fu28x16
noncomputable def fu4x4 : Tr Go.Func := Tr.node fu8x8 (some Tryz.f4) fu12x8
noncomputable def fu258x256 : Tr Go.Func := Tr.node Tr.nil (some Tryz.f258) Tr.nil
noncomputable def fu130x128 : Tr Go.Func := Tr.node fu258x256 (some Tryz.f130) Tr.nil
noncomputable def fu194x128 : Tr Go.Func := Tr.node Tr.nil (none) Tr.nil
noncomputable def fu66x64 : Tr Go.Func := Tr.node fu130x128 (none) fu194x128
noncomputable def fu290x256 : Tr Go.Func := Tr.node Tr.nil (none) Tr.nil
noncomputable def fu162x128 : Tr Go.Func := Tr.node fu290x256 (none) Tr.nil
noncomputable def fu226x128 : Tr Go.Func := Tr.node Tr.nil (some Tryz.f226) Tr.nil
noncomputable def fu98x64 : Tr Go.Func := Tr.node fu162x128 (none) fu226x128
noncomputable def fu34x32 : Tr Go.Func := Tr.node fu66x64 (some Tryz.f34) fu98x64
noncomputable def fu274x256 : Tr Go.Func := Tr.node Tr.nil (none) Tr.nil
noncomputable def fu146x128 : Tr Go.Func := Tr.node fu274x256 (some Tryz.f146) Tr.nil
noncomputable def fu210x128 : Tr Go.Func := Tr.node Tr.nil (none) Tr.nil
noncomputable def fu82x64 : Tr Go.Func := Tr.node fu146x128 (none) fu210x128
noncomputable def fu306x256 : Tr Go.Func := Tr.node Tr.nil (none) Tr.nil
noncomputable def fu178x128 : Tr Go.Func := Tr.node fu306x256 (none) Tr.nil
noncomputable def fu242x128 : Tr Go.Func := Tr.node Tr.nil (none) Tr.nil
noncomputable def fu114x64 : Tr Go.Func := Tr.node fu178x128 (some Tryz.f114) fu242x128
noncomputable def fu50x32 : Tr Go.Func := Tr.node fu82x64 (some Tryz.f50) fu114x64
noncomputable def fu18x16 : Tr Go.Func := Tr.node fu34x32 (some Tryz.f18) fu50x32
noncomputable def fu266x256 : Tr Go.Func := Tr.node Tr.nil (none) Tr.nil
noncomputable def fu138x128 : Tr Go.Func := Tr.node fu266x256 (some Tryz.f138) Tr.nil
noncomputable def fu202x128 : Tr Go.Func := Tr.node Tr.nil (none) Tr.nil
noncomputable def fu74x64 : Tr Go.Func := Tr.node fu138x128 (some Tryz.f74) fu202x128
noncomputable def fu298x256 : Tr Go.Func := Tr.node Tr.nil (none) Tr.nil
noncomputable def fu170x128 : Tr Go.Func := Tr.node fu298x256 (some Tryz.f170) Tr.nil
noncomputable def fu234x128 : Tr Go.Func := Tr.node Tr.nil (none) Tr.nil
noncomputable def fu106x64 : Tr Go.Func := Tr.node fu170x128 (some Tryz.f106) fu234x128
noncomputable def fu42x32 : Tr Go.Func := Tr.node fu74x64 (some Tryz.f42) fu106x64
noncomputable def fu282x256 : Tr Go.Func := Tr.node Tr.nil (none) Tr.nil
noncomputable def fu154x128 : Tr Go.Func := Tr.node fu282x256 (none) Tr.nil
noncomputable def fu218x128 : Tr Go.Func := Tr.node Tr.nil (some Tryz.f218) Tr.nil
noncomputable def fu90x64 : Tr Go.Func := Tr.node fu154x128 (some Tryz.f90) fu218x128
noncomputable def fu186x128 : Tr Go.Func := Tr.node Tr.nil (some Tryz.f186) Tr.nil
noncomputable def fu250x128 : Tr Go.Func := Tr.node Tr.nil (none) Tr.nil
noncomputable def fu122x64 : Tr Go.Func := Tr.node fu186x128 (none) fu250x128
noncomputable def fu58x32 : Tr Go.Func := Tr.node fu90x64 (some Tryz.f58) fu122x64
noncomputable def fu26x16 : Tr Go.Func := Tr.node fu42x32 (some Tryz.f26) fu58x32
noncomputable def fu10x8 : Tr Go.Func := Tr.node fu18x16 (some Tryz.f10) fu26x16
noncomputable def fu262x256 : Tr Go.Func := Tr.node Tr.nil (none) Tr.nil
noncomputable def fu134x128 : Tr Go.Func := Tr.node fu262x256 (none) Tr.nil
noncomputable def fu198x128 : Tr Go.Func := Tr.node Tr.nil (some Tryz.f198) Tr.nil
noncomputable def fu70x64 : Tr Go.Func := Tr.node fu134x128 (some Tryz.f70) fu198x128
noncomputable def fu294x256 : Tr Go.Func := Tr.node Tr.nil (none) Tr.nil
noncomputable def fu166x128 : Tr Go.Func := Tr.node fu294x256 (none) Tr.nil
noncomputable def fu230x128 : Tr Go.Func := Tr.node Tr.nil (some Tryz.f230) Tr.nil
noncomputable def fu102x64 : Tr Go.Func := Tr.node fu166x128 (some Tryz.f102) fu230x128
noncomputable def fu38x32 : Tr Go.Func := Tr.node fu70x64 (some Tryz.f38) fu102x64
noncomputable def fu278x256 : Tr Go.Func := Tr.node Tr.nil (none) Tr.nil
noncomputable def fu150x128 : Tr Go.Func := Tr.node fu278x256 (none) Tr.nil
noncomputable def fu214x128 : Tr Go.Func := Tr.node Tr.nil (none) Tr.nil
noncomputable def fu86x64 : Tr Go.Func := Tr.node fu150x128 (some Tryz.f86) fu214x128
noncomputable def fu182x128 : Tr Go.Func := Tr.node Tr.nil (none) Tr.nil
noncomputable def fu246x128 : Tr Go.Func := Tr.node Tr.nil (none) Tr.nil
noncomputable def fu118x64 : Tr Go.Func := Tr.node fu182x128 (some Tryz.f118) fu246x128
noncomputable def fu54x32 : Tr Go.Func := Tr.node fu86x64 (some Tryz.f54) fu118x64
noncomputable def fu22x16 : Tr Go.Func := Tr.node fu38x32 (some Tryz.f22) fu54x32
noncomputable def fu270x256 : Tr Go.Func := Tr.node Tr.nil (none) Tr.nil
noncomputable def fu142x128 : Tr Go.Func := Tr.node fu270x256 (some Tryz.f142) Tr.nil
noncomputable def fu206x128 : Tr Go.Func := Tr.node Tr.nil (none) Tr.nil
noncomputable def fu78x64 : Tr Go.Func := Tr.node fu142x128 (some Tryz.f78) fu206x128
noncomputable def fu302x256 : Tr Go.Func := Tr.node Tr.nil (none) Tr.nil
noncomputable def fu174x128 : Tr Go.Func := Tr.node fu302x256 (some Tryz.f174) Tr.nil
noncomputable def fu238x128 : Tr Go.Func := Tr.node Tr.nil (some Tryz.f238) Tr.nil
noncomputable def fu110x64 : Tr Go.Func := Tr.node fu174x128 (some Tryz.f110) fu238x128
noncomputable def fu46x32 : Tr Go.Func := Tr.node fu78x64 (some Tryz.f46) fu110x64
noncomputable def fu286x256 : Tr Go.Func := Tr.node Tr.nil (none) Tr.nil
noncomputable def fu158x128 : Tr Go.Func := Tr.node fu286x256 (some Tryz.f158) Tr.nil
noncomputable def fu222x128 : Tr Go.Func := Tr.node Tr.nil (some Tryz.f222) Tr.nil
noncomputable def fu94x64 : Tr Go.Func := Tr.node fu158x128 (none) fu222x128
noncomputable def fu190x128 : Tr Go.Func := Tr.node Tr.nil (none) Tr.nil
noncomputable def fu254x128 : Tr Go.Func := Tr.node Tr.nil (none) Tr.nil
noncomputable def fu126x64 : Tr Go.Func := Tr.node fu190x128 (some Tryz.f126) fu254x128
noncomputable def fu62x32 : Tr Go.Func := Tr.node fu94x64 (some Tryz.f62) fu126x64
noncomputable def fu30x16 : Tr Go.Func := Tr.node fu46x32 (some Tryz.f30) fu62x32
noncomputable def fu14x8 : Tr Go.Func := Tr.node fu22x16 (some Tryz.f14) fu30x16
noncomputable def fu6x4 : Tr Go.Func := Tr.node fu10x8 (some Tryz.f6) fu14x8
noncomputable def fu2x2 : Tr Go.Func := Tr.node fu4x4 (none) fu6x4
noncomputable def fu0x1 : Tr Go.Func := Tr.node fu1x2 (none) fu2x2
def tyP (n : Nat) (x : TI) : Prop := mkTI Tryz.prog n = some x
def fuP (n : Nat) (x : Go.Func) : Prop := FunOk Tryz.prog n x
theorem tyv1 : mkTI Tryz.prog 1 = some ti1 := by kernel_rfl
theorem tyv2 : mkTI Tryz.prog 2 = some ti2 := by kernel_rfl
theorem tyv3 : mkTI Tryz.prog 3 = some ti3 := by kernel_rfl
theorem tyv4 : mkTI Tryz.prog 4 = some ti4 := by kernel_rfl
theorem tyv5 : mkTI Tryz.prog 5 = some ti5 := by kernel_rfl
theorem tyv6 : mkTI Tryz.prog 6 = some ti6 := by kernel_rfl
theorem tyv7 : mkTI Tryz.prog 7 = some ti7 := by kernel_rfl
theorem tyv8 : mkTI Tryz.prog 8 = some ti8 := by kernel_rfl
theorem tyv9 : mkTI Tryz.prog 9 = some ti9 := by kernel_rfl
theorem tyv10 : mkTI Tryz.prog 10 = some ti10 := by kernel_rfl
theorem tyv11 : mkTI Tryz.prog 11 = some ti11 := by kernel_rfl
theorem tyv12 : mkTI Tryz.prog 12 = some ti12 := by kernel_rfl
theorem tyv13 : mkTI Tryz.prog 13 = some ti13 := by kernel_rfl
theorem tyv14 : mkTI Tryz.prog 14 = some ti14 := by kernel_rfl
theorem tyv15 : mkTI Tryz.prog 15 = some ti15 := by kernel_rfl
theorem tyv16 : mkTI Tryz.prog 16 = some ti16 := by kernel_rfl
theorem tyv17 : mkTI Tryz.prog 17 = some ti17 := by kernel_rfl
theorem tyv18 : mkTI Tryz.prog 18 = some ti18 := by kernel_rfl
theorem tyv19 : mkTI Tryz.prog 19 = some ti19 := by kernel_rfl
theorem tyv20 : mkTI Tryz.prog 20 = some ti20 := by kernel_rfl
theorem tyv21 : mkTI Tryz.prog 21 = some ti21 := by kernel_rfl
theorem tyv22 : mkTI Tryz.prog 22 = some ti22 := by kernel_rfl
theorem tyv23 : mkTI Tryz.prog 23 = some ti23 := by kernel_rfl
theorem tyv24 : mkTI Tryz.prog 24 = some ti24 := by kernel_rfl
theorem tyv25 : mkTI Tryz.prog 25 = some ti25 := by kernel_rfl
theorem tyv26 : mkTI Tryz.prog 26 = some ti26 := by kernel_rfl
theorem tyv27 : mkTI Tryz.prog 27 = some ti27 := by kernel_rfl
theorem tyv28 : mkTI Tryz.prog 28 = some ti28 := by kernel_rfl
theorem tyv30 : mkTI Tryz.prog 30 = some ti30 := by kernel_rfl
theorem tyv31 : mkTI Tryz.prog 31 = some ti31 := by kernel_rfl
theorem tyv32 : mkTI Tryz.prog 32 = some ti32 := by kernel_rfl
theorem tyv33 : mkTI Tryz.prog 33 = some ti33 := by kernel_rfl
theorem tyv34 : mkTI Tryz.prog 34 = some ti34 := by kernel_rfl
theorem tyv35 : mkTI Tryz.prog 35 = some ti35 := by kernel_rfl
theorem tyv36 : mkTI Tryz.prog 36 = some ti36 := by kernel_rfl
theorem tyv37 : mkTI Tryz.prog 37 = some ti37 := by kernel_rfl
theorem tyv38 : mkTI Tryz.prog 38 = some ti38 := by kernel_rfl
theorem tyv40 : mkTI Tryz.prog 40 = some ti40 := by kernel_rfl
theorem tyv41 : mkTI Tryz.prog 41 = some ti41 := by kernel_rfl
theorem tyv42 : mkTI Tryz.prog 42 = some ti42 := by kernel_rfl
theorem tyv43 : mkTI Tryz.prog 43 = some ti43 := by kernel_rfl
theorem tyv45 : mkTI Tryz.prog 45 = some ti45 := by kernel_rfl
theorem tyv46 : mkTI Tryz.prog 46 = some ti46 := by kernel_rfl
theorem tyv47 : mkTI Tryz.prog 47 = some ti47 := by kernel_rfl
theorem tyv48 : mkTI Tryz.prog 48 = some ti48 := by kernel_rfl
theorem tyv49 : mkTI Tryz.prog 49 = some ti49 := by kernel_rfl
theorem tyv50 : mkTI Tryz.prog 50 = some ti50 := by kernel_rfl
theorem tyv51 : mkTI Tryz.prog 51 = some ti51 := by kernel_rfl
theorem tyv52 : mkTI Tryz.prog 52 = some ti52 := by kernel_rfl
theorem tyv53 : mkTI Tryz.prog 53 = some ti53 := by kernel_rfl
theorem tyv54 : mkTI Tryz.prog 54 = some ti54 := by kernel_rfl
theorem tyv55 : mkTI Tryz.prog 55 = some ti55 := by kernel_rfl
theorem tyv56 : mkTI Tryz.prog 56 = some ti56 := by kernel_rfl
theorem tyv57 : mkTI Tryz.prog 57 = some ti57 := by kernel_rfl
theorem tyv58 : mkTI Tryz.prog 58 = some ti58 := by kernel_rfl
theorem tyv60 : mkTI Tryz.prog 60 = some ti60 := by kernel_rfl
theorem tyv61 : mkTI Tryz.prog 61 = some ti61 := by kernel_rfl
theorem tyv63 : mkTI Tryz.prog 63 = some ti63 := by kernel_rfl
theorem tyv64 : mkTI Tryz.prog 64 = some ti64 := by kernel_rfl
theorem tyv65 : mkTI Tryz.prog 65 = some ti65 := by kernel_rfl
theorem tyv67 : mkTI Tryz.prog 67 = some ti67 := by kernel_rfl
theorem tyv68 : mkTI Tryz.prog 68 = some ti68 := by kernel_rfl
theorem tyv69 : mkTI Tryz.prog 69 = some ti69 := by kernel_rfl
theorem tyv70 : mkTI Tryz.prog 70 = some ti70 := by kernel_rfl
theorem tyv72 : mkTI Tryz.prog 72 = some ti72 := by kernel_rfl
theorem tyv73 : mkTI Tryz.prog 73 = some ti73 := by kernel_rfl
theorem tyv74 : mkTI Tryz.prog 74 = some ti74 := by kernel_rfl
theorem tyv76 : mkTI Tryz.prog 76 = some ti76 := by kernel_rfl
theorem tyv77 : mkTI Tryz.prog 77 = some ti77 := by kernel_rfl
theorem tyv78 : mkTI Tryz.prog 78 = some ti78 := by kernel_rfl
theorem tyv79 : mkTI Tryz.prog 79 = some ti79 := by kernel_rfl
theorem tyv80 : mkTI Tryz.prog 80 = some ti80 := by kernel_rfl
theorem tyv81 : mkTI Tryz.prog 81 = some ti81 := by kernel_rfl
theorem tyv82 : mkTI Tryz.prog 82 = some ti82 := by kernel_rfl
theorem tyv83 : mkTI Tryz.prog 83 = some ti83 := by kernel_rfl
theorem tyv84 : mkTI Tryz.prog 84 = some ti84 := by kernel_rfl
theorem tyv85 : mkTI Tryz.prog 85 = some ti85 := by kernel_rfl
theorem tyv86 : mkTI Tryz.prog 86 = some ti86 := by kernel_rfl
theorem tyv87 : mkTI Tryz.prog 87 = some ti87 := by kernel_rfl
theorem tyv88 : mkTI Tryz.prog 88 = some ti88 := by kernel_rfl
theorem tyv89 : mkTI Tryz.prog 89 = some ti89 := by kernel_rfl
theorem tyv90 : mkTI Tryz.prog 90 = some ti90 := by kernel_rfl
theorem tyv92 : mkTI Tryz.prog 92 = some ti92 := by kernel_rfl
theorem tyv93 : mkTI Tryz.prog 93 = some ti93 := by kernel_rfl
theorem tyv94 : mkTI Tryz.prog 94 = some ti94 := by kernel_rfl
theorem tyv95 : mkTI Tryz.prog 95 = some ti95 := by kernel_rfl
theorem tyv96 : mkTI Tryz.prog 96 = some ti96 := by kernel_rfl
theorem tyv97 : mkTI Tryz.prog 97 = some ti97 := by kernel_rfl
theorem tyv98 : mkTI Tryz.prog 98 = some ti98 := by kernel_rfl
theorem tyv100 : mkTI Tryz.prog 100 = some ti100 := by kernel_rfl
theorem tyv101 : mkTI Tryz.prog 101 = some ti101 := by kernel_rfl
theorem tyv103 : mkTI Tryz.prog 103 = some ti103 := by kernel_rfl
theorem tyv104 : mkTI Tryz.prog 104 = some ti104 := by kernel_rfl
theorem tyv105 : mkTI Tryz.prog 105 = some ti105 := by kernel_rfl
theorem tyv106 : mkTI Tryz.prog 106 = some ti106 := by kernel_rfl
theorem tyv107 : mkTI Tryz.prog 107 = some ti107 := by kernel_rfl
theorem tyv108 : mkTI Tryz.prog 108 = some ti108 := by kernel_rfl
theorem tyv109 : mkTI Tryz.prog 109 = some ti109 := by kernel_rfl
theorem tyv110 : mkTI Tryz.prog 110 = some ti110 := by kernel_rfl
theorem tyv111 : mkTI Tryz.prog 111 = some ti111 := by kernel_rfl
theorem tyv112 : mkTI Tryz.prog 112 = some ti112 := by kernel_rfl
theorem tyv113 : mkTI Tryz.prog 113 = some ti113 := by kernel_rfl
theorem tyv114 : mkTI Tryz.prog 114 = some ti114 := by kernel_rfl
theorem tyv115 : mkTI Tryz.prog 115 = some ti115 := by kernel_rfl
theorem tyv117 : mkTI Tryz.prog 117 = some ti117 := by kernel_rfl
theorem tyv118 : mkTI Tryz.prog 118 = some ti118 := by kernel_rfl
theorem tyv119 : mkTI Tryz.prog 119 = some ti119 := by kernel_rfl
theorem tyv120 : mkTI Tryz.prog 120 = some ti120 := by kernel_rfl
theorem tyv121 : mkTI Tryz.prog 121 = some ti121 := by kernel_rfl
theorem tyv122 : mkTI Tryz.prog 122 = some ti122 := by kernel_rfl
theorem tyv123 : mkTI Tryz.prog 123 = some ti123 := by kernel_rfl
theorem tyv124 : mkTI Tryz.prog 124 = some ti124 := by kernel_rfl
theorem tyv125 : mkTI Tryz.prog 125 = some ti125 := by kernel_rfl
theorem tyv126 : mkTI Tryz.prog 126 = some ti126 := by kernel_rfl
theorem tyv128 : mkTI Tryz.prog 128 = some ti128 := by kernel_rfl
theorem tyv129 : mkTI Tryz.prog 129 = some ti129 := by kernel_rfl
theorem tyv130 : mkTI Tryz.prog 130 = some ti130 := by kernel_rfl
theorem tyv131 : mkTI Tryz.prog 131 = some ti131 := by kernel_rfl
theorem tyv132 : mkTI Tryz.prog 132 = some ti132 := by kernel_rfl
theorem tyv133 : mkTI Tryz.prog 133 = some ti133 := by kernel_rfl
theorem tyv134 : mkTI Tryz.prog 134 = some ti134 := by kernel_rfl
theorem tyv135 : mkTI Tryz.prog 135 = some ti135 := by kernel_rfl
theorem tyv136 : mkTI Tryz.prog 136 = some ti136 := by kernel_rfl
theorem tyv137 : mkTI Tryz.prog 137 = some ti137 := by kernel_rfl
theorem tyv138 : mkTI Tryz.prog 138 = some ti138 := by kernel_rfl
theorem tyv139 : mkTI Tryz.prog 139 = some ti139 := by kernel_rfl
theorem tyv140 : mkTI Tryz.prog 140 = some ti140 := by kernel_rfl
theorem tyv141 : mkTI Tryz.prog 141 = some ti141 := by kernel_rfl
theorem tyv142 : mkTI Tryz.prog 142 = some ti142 := by kernel_rfl
theorem tyv144 : mkTI Tryz.prog 144 = some ti144 := by kernel_rfl
theorem tyv145 : mkTI Tryz.prog 145 = some ti145 := by kernel_rfl
theorem tyv146 : mkTI Tryz.prog 146 = some ti146 := by kernel_rfl
theorem tyv147 : mkTI Tryz.prog 147 = some ti147 := by kernel_rfl
theorem tyv148 : mkTI Tryz.prog 148 = some ti148 := by kernel_rfl
theorem tyv150 : mkTI Tryz.prog 150 = some ti150 := by kernel_rfl
theorem tyv151 : mkTI Tryz.prog 151 = some ti151 := by kernel_rfl
theorem tyv153 : mkTI Tryz.prog 153 = some ti153 := by kernel_rfl
theorem tyv154 : mkTI Tryz.prog 154 = some ti154 := by kernel_rfl
theorem tyv155 : mkTI Tryz.prog 155 = some ti155 := by kernel_rfl
theorem tyv156 : mkTI Tryz.prog 156 = some ti156 := by kernel_rfl
theorem tyv157 : mkTI Tryz.prog 157 = some ti157 := by kernel_rfl
theorem tyv158 : mkTI Tryz.prog 158 = some ti158 := by kernel_rfl
theorem tyv159 : mkTI Tryz.prog 159 = some ti159 := by kernel_rfl
theorem tyv160 : mkTI Tryz.prog 160 = some ti160 := by kernel_rfl
theorem tyv161 : mkTI Tryz.prog 161 = some ti161 := by kernel_rfl
theorem tyv162 : mkTI Tryz.prog 162 = some ti162 := by kernel_rfl
theorem tyv163 : mkTI Tryz.prog 163 = some ti163 := by kernel_rfl
theorem tyv164 : mkTI Tryz.prog 164 = some ti164 := by kernel_rfl
theorem tyv166 : mkTI Tryz.prog 166 = some ti166 := by kernel_rfl
theorem tyv167 : mkTI Tryz.prog 167 = some ti167 := by kernel_rfl
theorem tyv168 : mkTI Tryz.prog 168 = some ti168 := by kernel_rfl
theorem tyv169 : mkTI Tryz.prog 169 = some ti169 := by kernel_rfl
theorem tyv170 : mkTI Tryz.prog 170 = some ti170 := by kernel_rfl
theorem tyv171 : mkTI Tryz.prog 171 = some ti171 := by kernel_rfl
theorem tyv172 : mkTI Tryz.prog 172 = some ti172 := by kernel_rfl
theorem tyv173 : mkTI Tryz.prog 173 = some ti173 := by kernel_rfl
theorem tyv174 : mkTI Tryz.prog 174 = some ti174 := by kernel_rfl
theorem tyv175 : mkTI Tryz.prog 175 = some ti175 := by kernel_rfl
theorem tyv177 : mkTI Tryz.prog 177 = some ti177 := by kernel_rfl
theorem tyv178 : mkTI Tryz.prog 178 = some ti178 := by kernel_rfl
theorem tyv179 : mkTI Tryz.prog 179 = some ti179 := by kernel_rfl
theorem tyv180 : mkTI Tryz.prog 180 = some ti180 := by kernel_rfl
theorem tyv181 : mkTI Tryz.prog 181 = some ti181 := by kernel_rfl
theorem tyv182 : mkTI Tryz.prog 182 = some ti182 := by kernel_rfl
theorem tyv183 : mkTI Tryz.prog 183 = some ti183 := by kernel_rfl
theorem tyv184 : mkTI Tryz.prog 184 = some ti184 := by kernel_rfl
theorem tyv185 : mkTI Tryz.prog 185 = some ti185 := by kernel_rfl
theorem tyv187 : mkTI Tryz.prog 187 = some ti187 := by kernel_rfl
theorem tyv188 : mkTI Tryz.prog 188 = some ti188 := by kernel_rfl
theorem tyv189 : mkTI Tryz.prog 189 = some ti189 := by kernel_rfl
theorem tyv190 : mkTI Tryz.prog 190 = some ti190 := by kernel_rfl
theorem tyv191 : mkTI Tryz.prog 191 = some ti191 := by kernel_rfl
theorem tyv192 : mkTI Tryz.prog 192 = some ti192 := by kernel_rfl
theorem tyv193 : mkTI Tryz.prog 193 = some ti193 := by kernel_rfl
theorem tyv194 : mkTI Tryz.prog 194 = some ti194 := by kernel_rfl
theorem tyv195 : mkTI Tryz.prog 195 = some ti195 := by kernel_rfl
theorem tyv196 : mkTI Tryz.prog 196 = some ti196 := by kernel_rfl
theorem tyv197 : mkTI Tryz.prog 197 = some ti197 := by kernel_rfl
theorem tyv199 : mkTI Tryz.prog 199 = some ti199 := by kernel_rfl
theorem tyv200 : mkTI Tryz.prog 200 = some ti200 := by kernel_rfl
theorem tyv201 : mkTI Tryz.prog 201 = some ti201 := by kernel_rfl
theorem tyv202 : mkTI Tryz.prog 202 = some ti202 := by kernel_rfl
theorem tyv203 : mkTI Tryz.prog 203 = some ti203 := by kernel_rfl
theorem tyv204 : mkTI Tryz.prog 204 = some ti204 := by kernel_rfl
theorem tyv205 : mkTI Tryz.prog 205 = some ti205 := by kernel_rfl
theorem tyv206 : mkTI Tryz.prog 206 = some ti206 := by kernel_rfl
theorem tyv207 : mkTI Tryz.prog 207 = some ti207 := by kernel_rfl
theorem tyv208 : mkTI Tryz.prog 208 = some ti208 := by kernel_rfl
theorem tyv209 : mkTI Tryz.prog 209 = some ti209 := by kernel_rfl
theorem tyv210 : mkTI Tryz.prog 210 = some ti210 := by kernel_rfl
theorem tyv211 : mkTI Tryz.prog 211 = some ti211 := by kernel_rfl
theorem tyv212 : mkTI Tryz.prog 212 = some ti212 := by kernel_rfl
theorem tyv213 : mkTI Tryz.prog 213 = some ti213 := by kernel_rfl
theorem tyv214 : mkTI Tryz.prog 214 = some ti214 := by kernel_rfl
theorem tyv215 : mkTI Tryz.prog 215 = some ti215 := by kernel_rfl
theorem tyv216 : mkTI Tryz.prog 216 = some ti216 := by kernel_rfl
theorem tyv217 : mkTI Tryz.prog 217 = some ti217 := by kernel_rfl
theorem tyv218 : mkTI Tryz.prog 218 = some ti218 := by kernel_rfl
theorem tyv220 : mkTI Tryz.prog 220 = some ti220 := by kernel_rfl
theorem tyv221 : mkTI Tryz.prog 221 = some ti221 := by kernel_rfl
theorem tyv223 : mkTI Tryz.prog 223 = some ti223 := by kernel_rfl
theorem tyv224 : mkTI Tryz.prog 224 = some ti224 := by kernel_rfl
theorem tyv225 : mkTI Tryz.prog 225 = some ti225 := by kernel_rfl
theorem tyv227 : mkTI Tryz.prog 227 = some ti227 := by kernel_rfl
theorem tyv228 : mkTI Tryz.prog 228 = some ti228 := by kernel_rfl
theorem tyv229 : mkTI Tryz.prog 229 = some ti229 := by kernel_rfl
theorem tyv230 : mkTI Tryz.prog 230 = some ti230 := by kernel_rfl
theorem tyv231 : mkTI Tryz.prog 231 = some ti231 := by kernel_rfl
theorem tyv232 : mkTI Tryz.prog 232 = some ti232 := by kernel_rfl
theorem tyv233 : mkTI Tryz.prog 233 = some ti233 := by kernel_rfl
theorem tyv234 : mkTI Tryz.prog 234 = some ti234 := by kernel_rfl
theorem tyv235 : mkTI Tryz.prog 235 = some ti235 := by kernel_rfl
theorem tyv236 : mkTI Tryz.prog 236 = some ti236 := by kernel_rfl
theorem tyv237 : mkTI Tryz.prog 237 = some ti237 := by kernel_rfl
theorem tyv239 : mkTI Tryz.prog 239 = some ti239 := by kernel_rfl
theorem tyv240 : mkTI Tryz.prog 240 = some ti240 := by kernel_rfl
theorem tyv241 : mkTI Tryz.prog 241 = some ti241 := by kernel_rfl
theorem tyv242 : mkTI Tryz.prog 242 = some ti242 := by kernel_rfl
theorem tyv243 : mkTI Tryz.prog 243 = some ti243 := by kernel_rfl
theorem tyv244 : mkTI Tryz.prog 244 = some ti244 := by kernel_rfl
theorem tyv245 : mkTI Tryz.prog 245 = some ti245 := by kernel_rfl
theorem tyv246 : mkTI Tryz.prog 246 = some ti246 := by kernel_rfl
theorem tyv247 : mkTI Tryz.prog 247 = some ti247 := by kernel_rfl
theorem tyv248 : mkTI Tryz.prog 248 = some ti248 := by kernel_rfl
theorem tyv249 : mkTI Tryz.prog 249 = some ti249 := by kernel_rfl
theorem tyv250 : mkTI Tryz.prog 250 = some ti250 := by kernel_rfl
theorem tyv251 : mkTI Tryz.prog 251 = some ti251 := by kernel_rfl
theorem tyv252 : mkTI Tryz.prog 252 = some ti252 := by kernel_rfl
theorem tyv253 : mkTI Tryz.prog 253 = some ti253 := by kernel_rfl
theorem tyv254 : mkTI Tryz.prog 254 = some ti254 := by kernel_rfl
theorem tyv255 : mkTI Tryz.prog 255 = some ti255 := by kernel_rfl
theorem tyv256 : mkTI Tryz.prog 256 = some ti256 := by kernel_rfl
theorem tyv257 : mkTI Tryz.prog 257 = some ti257 := by kernel_rfl
theorem tyv259 : mkTI Tryz.prog 259 = some ti259 := by kernel_rfl
theorem tyv260 : mkTI Tryz.prog 260 = some ti260 := by kernel_rfl
theorem tyv262 : mkTI Tryz.prog 262 = some ti262 := by kernel_rfl
theorem tyv263 : mkTI Tryz.prog 263 = some ti263 := by kernel_rfl
theorem tyv264 : mkTI Tryz.prog 264 = some ti264 := by kernel_rfl
theorem tyv265 : mkTI Tryz.prog 265 = some ti265 := by kernel_rfl
theorem tyv266 : mkTI Tryz.prog 266 = some ti266 := by kernel_rfl
theorem tyv267 : mkTI Tryz.prog 267 = some ti267 := by kernel_rfl
theorem tyv268 : mkTI Tryz.prog 268 = some ti268 := by kernel_rfl
theorem tyv269 : mkTI Tryz.prog 269 = some ti269 := by kernel_rfl
theorem tyv270 : mkTI Tryz.prog 270 = some ti270 := by kernel_rfl
theorem tyv271 : mkTI Tryz.prog 271 = some ti271 := by kernel_rfl
theorem tyv272 : mkTI Tryz.prog 272 = some ti272 := by kernel_rfl
theorem tyv273 : mkTI Tryz.prog 273 = some ti273 := by kernel_rfl
theorem tyv274 : mkTI Tryz.prog 274 = some ti274 := by kernel_rfl
theorem tyv275 : mkTI Tryz.prog 275 = some ti275 := by kernel_rfl
theorem tyv276 : mkTI Tryz.prog 276 = some ti276 := by kernel_rfl
theorem tyv277 : mkTI Tryz.prog 277 = some ti277 := by kernel_rfl
theorem tyv278 : mkTI Tryz.prog 278 = some ti278 := by kernel_rfl
theorem tyv280 : mkTI Tryz.prog 280 = some ti280 := by kernel_rfl
theorem tyv281 : mkTI Tryz.prog 281 = some ti281 := by kernel_rfl
theorem tyv282 : mkTI Tryz.prog 282 = some ti282 := by kernel_rfl
theorem tyv283 : mkTI Tryz.prog 283 = some ti283 := by kernel_rfl
theorem tyv284 : mkTI Tryz.prog 284 = some ti284 := by kernel_rfl
theorem tyv285 : mkTI Tryz.prog 285 = some ti285 := by kernel_rfl
theorem tyv286 : mkTI Tryz.prog 286 = some ti286 := by kernel_rfl
theorem tyv287 : mkTI Tryz.prog 287 = some ti287 := by kernel_rfl
theorem tyv289 : mkTI Tryz.prog 289 = some ti289 := by kernel_rfl
theorem tyv290 : mkTI Tryz.prog 290 = some ti290 := by kernel_rfl
theorem tyv291 : mkTI Tryz.prog 291 = some ti291 := by kernel_rfl
theorem tyv292 : mkTI Tryz.prog 292 = some ti292 := by kernel_rfl
theorem tyv293 : mkTI Tryz.prog 293 = some ti293 := by kernel_rfl
theorem tyv294 : mkTI Tryz.prog 294 = some ti294 := by kernel_rfl
theorem tyv295 : mkTI Tryz.prog 295 = some ti295 := by kernel_rfl
theorem tyv296 : mkTI Tryz.prog 296 = some ti296 := by kernel_rfl
theorem tyv297 : mkTI Tryz.prog 297 = some ti297 := by kernel_rfl
theorem tyv298 : mkTI Tryz.prog 298 = some ti298 := by kernel_rfl
theorem tyv300 : mkTI Tryz.prog 300 = some ti300 := by kernel_rfl
theorem tyv301 : mkTI Tryz.prog 301 = some ti301 := by kernel_rfl
theorem tyv302 : mkTI Tryz.prog 302 = some ti302 := by kernel_rfl
theorem tyv304 : mkTI Tryz.prog 304 = some ti304 := by kernel_rfl
theorem tyv305 : mkTI Tryz.prog 305 = some ti305 := by kernel_rfl
theorem tyv306 : mkTI Tryz.prog 306 = some ti306 := by kernel_rfl
theorem tyv307 : mkTI Tryz.prog 307 = some ti307 := by kernel_rfl
theorem tyv308 : mkTI Tryz.prog 308 = some ti308 := by kernel_rfl
theorem tyv310 : mkTI Tryz.prog 310 = some ti310 := by kernel_rfl
theorem tyv311 : mkTI Tryz.prog 311 = some ti311 := by kernel_rfl
theorem tyv312 : mkTI Tryz.prog 312 = some ti312 := by kernel_rfl
theorem tyv313 : mkTI Tryz.prog 313 = some ti313 := by kernel_rfl
theorem tyv314 : mkTI Tryz.prog 314 = some ti314 := by kernel_rfl
theorem tyv315 : mkTI Tryz.prog 315 = some ti315 := by kernel_rfl
theorem tyv316 : mkTI Tryz.prog 316 = some ti316 := by kernel_rfl
theorem tyv317 : mkTI Tryz.prog 317 = some ti317 := by kernel_rfl
theorem tyv318 : mkTI Tryz.prog 318 = some ti318 := by kernel_rfl
theorem tyv319 : mkTI Tryz.prog 319 = some ti319 := by kernel_rfl
theorem tyv320 : mkTI Tryz.prog 320 = some ti320 := by kernel_rfl
theorem tyv322 : mkTI Tryz.prog 322 = some ti322 := by kernel_rfl
theorem tyv323 : mkTI Tryz.prog 323 = some ti323 := by kernel_rfl
theorem tyv324 : mkTI Tryz.prog 324 = some ti324 := by kernel_rfl
theorem tyv325 : mkTI Tryz.prog 325 = some ti325 := by kernel_rfl
theorem tyv327 : mkTI Tryz.prog 327 = some ti327 := by kernel_rfl
theorem tyv328 : mkTI Tryz.prog 328 = some ti328 := by kernel_rfl
theorem tyv329 : mkTI Tryz.prog 329 = some ti329 := by kernel_rfl
theorem tyv331 : mkTI Tryz.prog 331 = some ti331 := by kernel_rfl
theorem tyv332 : mkTI Tryz.prog 332 = some ti332 := by kernel_rfl
theorem tyv333 : mkTI Tryz.prog 333 = some ti333 := by kernel_rfl
theorem tyv334 : mkTI Tryz.prog 334 = some ti334 := by kernel_rfl
theorem tyv336 : mkTI Tryz.prog 336 = some ti336 := by kernel_rfl
theorem tyv337 : mkTI Tryz.prog 337 = some ti337 := by kernel_rfl
theorem tyv338 : mkTI Tryz.prog 338 = some ti338 := by kernel_rfl
theorem tyv340 : mkTI Tryz.prog 340 = some ti340 := by kernel_rfl
theorem tyv341 : mkTI Tryz.prog 341 = some ti341 := by kernel_rfl
theorem tyv342 : mkTI Tryz.prog 342 = some ti342 := by kernel_rfl
theorem tyv343 : mkTI Tryz.prog 343 = some ti343 := by kernel_rfl
theorem tyv345 : mkTI Tryz.prog 345 = some ti345 := by kernel_rfl
theorem tyv346 : mkTI Tryz.prog 346 = some ti346 := by kernel_rfl
theorem tyv347 : mkTI Tryz.prog 347 = some ti347 := by kernel_rfl
theorem tyv348 : mkTI Tryz.prog 348 = some ti348 := by kernel_rfl
theorem tyv349 : mkTI Tryz.prog 349 = some ti349 := by kernel_rfl
theorem tyv350 : mkTI Tryz.prog 350 = some ti350 := by kernel_rfl
theorem tyv351 : mkTI Tryz.prog 351 = some ti351 := by kernel_rfl
theorem tyv352 : mkTI Tryz.prog 352 = some ti352 := by kernel_rfl
theorem tyv353 : mkTI Tryz.prog 353 = some ti353 := by kernel_rfl
theorem tyv354 : mkTI Tryz.prog 354 = some ti354 := by kernel_rfl
theorem tyv355 : mkTI Tryz.prog 355 = some ti355 := by kernel_rfl
theorem tyv356 : mkTI Tryz.prog 356 = some ti356 := by kernel_rfl
theorem tyv359 : mkTI Tryz.prog 359 = some ti359 := by kernel_rfl
theorem tyv360 : mkTI Tryz.prog 360 = some ti360 := by kernel_rfl
theorem tyv361 : mkTI Tryz.prog 361 = some ti361 := by kernel_rfl
theorem tyv362 : mkTI Tryz.prog 362 = some ti362 := by kernel_rfl
theorem tyv363 : mkTI Tryz.prog 363 = some ti363 := by kernel_rfl
theorem tyv364 : mkTI Tryz.prog 364 = some ti364 := by kernel_rfl
theorem tyv365 : mkTI Tryz.prog 365 = some ti365 := by kernel_rfl
theorem tyv366 : mkTI Tryz.prog 366 = some ti366 := by kernel_rfl
theorem tyv367 : mkTI Tryz.prog 367 = some ti367 := by kernel_rfl
theorem tyv368 : mkTI Tryz.prog 368 = some ti368 := by kernel_rfl
theorem tyv369 : mkTI Tryz.prog 369 = some ti369 := by kernel_rfl
theorem tyv370 : mkTI Tryz.prog 370 = some ti370 := by kernel_rfl
theorem tyv371 : mkTI Tryz.prog 371 = some ti371 := by kernel_rfl
theorem tyv372 : mkTI Tryz.prog 372 = some ti372 := by kernel_rfl
theorem tyv373 : mkTI Tryz.prog 373 = some ti373 := by kernel_rfl
theorem tyv374 : mkTI Tryz.prog 374 = some ti374 := by kernel_rfl
theorem tyv375 : mkTI Tryz.prog 375 = some ti375 := by kernel_rfl
theorem tyv376 : mkTI Tryz.prog 376 = some ti376 := by kernel_rfl
theorem tyv377 : mkTI Tryz.prog 377 = some ti377 := by kernel_rfl
theorem tyv378 : mkTI Tryz.prog 378 = some ti378 := by kernel_rfl
theorem tyv379 : mkTI Tryz.prog 379 = some ti379 := by kernel_rfl
theorem tyv380 : mkTI Tryz.prog 380 = some ti380 := by kernel_rfl
theorem tyv381 : mkTI Tryz.prog 381 = some ti381 := by kernel_rfl
theorem tyv382 : mkTI Tryz.prog 382 = some ti382 := by kernel_rfl
theorem tyv383 : mkTI Tryz.prog 383 = some ti383 := by kernel_rfl
theorem tyv384 : mkTI Tryz.prog 384 = some ti384 := by kernel_rfl
theorem tyv385 : mkTI Tryz.prog 385 = some ti385 := by kernel_rfl
theorem tyv386 : mkTI Tryz.prog 386 = some ti386 := by kernel_rfl
theorem tyv387 : mkTI Tryz.prog 387 = some ti387 := by kernel_rfl
theorem tyv388 : mkTI Tryz.prog 388 = some ti388 := by kernel_rfl
theorem tyv389 : mkTI Tryz.prog 389 = some ti389 := by kernel_rfl
theorem tyv390 : mkTI Tryz.prog 390 = some ti390 := by kernel_rfl
theorem tyok255x256 : AllK tyP 255 256 ty255x256 := AllK.node AllK.nil (fun x h => by cases h; exact tyv255) AllK.nil
theorem tyok383x256 : AllK tyP 383 256 ty383x256 := AllK.node AllK.nil (fun x h => by cases h; exact tyv383) AllK.nil
theorem tyok127x128 : AllK tyP 127 128 ty127x128 := AllK.node tyok255x256 (fun _ h => nomatch h) tyok383x256
theorem tyok319x256 : AllK tyP 319 256 ty319x256 := AllK.node AllK.nil (fun x h => by cases h; exact tyv319) AllK.nil
theorem tyok191x128 : AllK tyP 191 128 ty191x128 := AllK.node tyok319x256 (fun x h => by cases h; exact tyv191) AllK.nil
theorem tyok63x64 : AllK tyP 63 64 ty63x64 := AllK.node tyok127x128 (fun x h => by cases h; exact tyv63) tyok191x128
theorem tyok287x256 : AllK tyP 287 256 ty287x256 := AllK.node AllK.nil (fun x h => by cases h; exact tyv287) AllK.nil
theorem tyok159x128 : AllK tyP 159 128 ty159x128 := AllK.node tyok287x256 (fun x h => by cases h; exact tyv159) AllK.nil
theorem tyok351x256 : AllK tyP 351 256 ty351x256 := AllK.node AllK.nil (fun x h => by cases h; exact tyv351) AllK.nil
theorem tyok223x128 : AllK tyP 223 128 ty223x128 := AllK.node tyok351x256 (fun x h => by cases h; exact tyv223) AllK.nil
theorem tyok95x64 : AllK tyP 95 64 ty95x64 := AllK.node tyok159x128 (fun x h => by cases h; exact tyv95) tyok223x128
theorem tyok31x32 : AllK tyP 31 32 ty31x32 := AllK.node tyok63x64 (fun x h => by cases h; exact tyv31) tyok95x64
theorem tyok271x256 : AllK tyP 271 256 ty271x256 := AllK.node AllK.nil (fun x h => by cases h; exact tyv271) AllK.nil
theorem tyok143x128 : AllK tyP 143 128 ty143x128 := AllK.node tyok271x256 (fun _ h => nomatch h) AllK.nil
theorem tyok335x256 : AllK tyP 335 256 ty335x256 := AllK.node AllK.nil (fun _ h => nomatch h) AllK.nil
theorem tyok207x128 : AllK tyP 207 128 ty207x128 := AllK.node tyok335x256 (fun x h => by cases h; exact tyv207) AllK.nil
theorem tyok79x64 : AllK tyP 79 64 ty79x64 := AllK.node tyok143x128 (fun x h => by cases h; exact tyv79) tyok207x128
theorem tyok303x256 : AllK tyP 303 256 ty303x256 := AllK.node AllK.nil (fun _ h => nomatch h) AllK.nil
theorem tyok175x128 : AllK tyP 175 128 ty175x128 := AllK.node tyok303x256 (fun x h => by cases h; exact tyv175) AllK.nil
theorem tyok367x256 : AllK tyP 367 256 ty367x256 := AllK.node AllK.nil (fun x h => by cases h; exact tyv367) AllK.nil
theorem tyok239x128 : AllK tyP 239 128 ty239x128 := AllK.node tyok367x256 (fun x h => by cases h; exact tyv239) AllK.nil
theorem tyok111x64 : AllK tyP 111 64 ty111x64 := AllK.node tyok175x128 (fun x h => by cases h; exact tyv111) tyok239x128
theorem tyok47x32 : AllK tyP 47 32 ty47x32 := AllK.node tyok79x64 (fun x h => by cases h; exact tyv47) tyok111x64
theorem tyok15x16 : AllK tyP 15 16 ty15x16 := AllK.node tyok31x32 (fun x h => by cases h; exact tyv15) tyok47x32
theorem tyok263x256 : AllK tyP 263 256 ty263x256 := AllK.node AllK.nil (fun x h => by cases h; exact tyv263) AllK.nil
theorem tyok135x128 : AllK tyP 135 128 ty135x128 := AllK.node tyok263x256 (fun x h => by cases h; exact tyv135) AllK.nil
theorem tyok327x256 : AllK tyP 327 256 ty327x256 := AllK.node AllK.nil (fun x h => by cases h; exact tyv327) AllK.nil
theorem tyok199x128 : AllK tyP 199 128 ty199x128 := AllK.node tyok327x256 (fun x h => by cases h; exact tyv199) AllK.nil
theorem tyok71x64 : AllK tyP 71 64 ty71x64 := AllK.node tyok135x128 (fun _ h => nomatch h) tyok199x128
theorem tyok295x256 : AllK tyP 295 256 ty295x256 := AllK.node AllK.nil (fun x h => by cases h; exact tyv295) AllK.nil
theorem tyok167x128 : AllK tyP 167 128 ty167x128 := AllK.node tyok295x256 (fun x h => by cases h; exact tyv167) AllK.nil
theorem tyok359x256 : AllK tyP 359 256 ty359x256 := AllK.node AllK.nil (fun x h => by cases h; exact tyv359) AllK.nil
theorem tyok231x128 : AllK tyP 231 128 ty231x128 := AllK.node tyok359x256 (fun x h => by cases h; exact tyv231) AllK.nil
theorem tyok103x64 : AllK tyP 103 64 ty103x64 := AllK.node tyok167x128 (fun x h => by cases h; exact tyv103) tyok231x128
theorem tyok39x32 : AllK tyP 39 32 ty39x32 := AllK.node tyok71x64 (fun _ h => nomatch h) tyok103x64
theorem tyok279x256 : AllK tyP 279 256 ty279x256 := AllK.node AllK.nil (fun _ h => nomatch h) AllK.nil
theorem tyok151x128 : AllK tyP 151 128 ty151x128 := AllK.node tyok279x256 (fun x h => by cases h; exact tyv151) AllK.nil
theorem tyok343x256 : AllK tyP 343 256 ty343x256 := AllK.node AllK.nil (fun x h => by cases h; exact tyv343) AllK.nil
theorem tyok215x128 : AllK tyP 215 128 ty215x128 := AllK.node tyok343x256 (fun x h => by cases h; exact tyv215) AllK.nil
theorem tyok87x64 : AllK tyP 87 64 ty87x64 := AllK.node tyok151x128 (fun x h => by cases h; exact tyv87) tyok215x128
theorem tyok311x256 : AllK tyP 311 256 ty311x256 := AllK.node AllK.nil (fun x h => by cases h; exact tyv311) AllK.nil
theorem tyok183x128 : AllK tyP 183 128 ty183x128 := AllK.node tyok311x256 (fun x h => by cases h; exact tyv183) AllK.nil
theorem tyok375x256 : AllK tyP 375 256 ty375x256 := AllK.node AllK.nil (fun x h => by cases h; exact tyv375) AllK.nil
theorem tyok247x128 : AllK tyP 247 128 ty247x128 := AllK.node tyok375x256 (fun x h => by cases h; exact tyv247) AllK.nil
theorem tyok119x64 : AllK tyP 119 64 ty119x64 := AllK.node tyok183x128 (fun x h => by cases h; exact tyv119) tyok247x128
theorem tyok55x32 : AllK tyP 55 32 ty55x32 := AllK.node tyok87x64 (fun x h => by cases h; exact tyv55) tyok119x64
theorem tyok23x16 : AllK tyP 23 16 ty23x16 := AllK.node tyok39x32 (fun x h => by cases h; exact tyv23) tyok55x32
theorem tyok7x8 : AllK tyP 7 8 ty7x8 := AllK.node tyok15x16 (fun x h => by cases h; exact tyv7) tyok23x16
theorem tyok259x256 : AllK tyP 259 256 ty259x256 := AllK.node AllK.nil (fun x h => by cases h; exact tyv259) AllK.nil
theorem tyok387x256 : AllK tyP 387 256 ty387x256 := AllK.node AllK.nil (fun x h => by cases h; exact tyv387) AllK.nil
theorem tyok131x128 : AllK tyP 131 128 ty131x128 := AllK.node tyok259x256 (fun x h => by cases h; exact tyv131) tyok387x256
theorem tyok323x256 : AllK tyP 323 256 ty323x256 := AllK.node AllK.nil (fun x h => by cases h; exact tyv323) AllK.nil
theorem tyok195x128 : AllK tyP 195 128 ty195x128 := AllK.node tyok323x256 (fun x h => by cases h; exact tyv195) AllK.nil
theorem tyok67x64 : AllK tyP 67 64 ty67x64 := AllK.node tyok131x128 (fun x h => by cases h; exact tyv67) tyok195x128
theorem tyok291x256 : AllK tyP 291 256 ty291x256 := AllK.node AllK.nil (fun x h => by cases h; exact tyv291) AllK.nil
theorem tyok163x128 : AllK tyP 163 128 ty163x128 := AllK.node tyok291x256 (fun x h => by cases h; exact tyv163) AllK.nil
theorem tyok355x256 : AllK tyP 355 256 ty355x256 := AllK.node AllK.nil (fun x h => by cases h; exact tyv355) AllK.nil
theorem tyok227x128 : AllK tyP 227 128 ty227x128 := AllK.node tyok355x256 (fun x h => by cases h; exact tyv227) AllK.nil
theorem tyok99x64 : AllK tyP 99 64 ty99x64 := AllK.node tyok163x128 (fun _ h => nomatch h) tyok227x128
theorem tyok35x32 : AllK tyP 35 32 ty35x32 := AllK.node tyok67x64 (fun x h => by cases h; exact tyv35) tyok99x64
theorem tyok275x256 : AllK tyP 275 256 ty275x256 := AllK.node AllK.nil (fun x h => by cases h; exact tyv275) AllK.nil
theorem tyok147x128 : AllK tyP 147 128 ty147x128 := AllK.node tyok275x256 (fun x h => by cases h; exact tyv147) AllK.nil
theorem tyok339x256 : AllK tyP 339 256 ty339x256 := AllK.node AllK.nil (fun _ h => nomatch h) AllK.nil
theorem tyok211x128 : AllK tyP 211 128 ty211x128 := AllK.node tyok339x256 (fun x h => by cases h; exact tyv211) AllK.nil
theorem tyok83x64 : AllK tyP 83 64 ty83x64 := AllK.node tyok147x128 (fun x h => by cases h; exact tyv83) tyok211x128
theorem tyok307x256 : AllK tyP 307 256 ty307x256 := AllK.node AllK.nil (fun x h => by cases h; exact tyv307) AllK.nil
theorem tyok179x128 : AllK tyP 179 128 ty179x128 := AllK.node tyok307x256 (fun x h => by cases h; exact tyv179) AllK.nil
theorem tyok371x256 : AllK tyP 371 256 ty371x256 := AllK.node AllK.nil (fun x h => by cases h; exact tyv371) AllK.nil
theorem tyok243x128 : AllK tyP 243 128 ty243x128 := AllK.node tyok371x256 (fun x h => by cases h; exact tyv243) AllK.nil
theorem tyok115x64 : AllK tyP 115 64 ty115x64 := AllK.node tyok179x128 (fun x h => by cases h; exact tyv115) tyok243x128
theorem tyok51x32 : AllK tyP 51 32 ty51x32 := AllK.node tyok83x64 (fun x h => by cases h; exact tyv51) tyok115x64
theorem tyok19x16 : AllK tyP 19 16 ty19x16 := AllK.node tyok35x32 (fun x h => by cases h; exact tyv19) tyok51x32
theorem tyok267x256 : AllK tyP 267 256 ty267x256 := AllK.node AllK.nil (fun x h => by cases h; exact tyv267) AllK.nil
theorem tyok139x128 : AllK tyP 139 128 ty139x128 := AllK.node tyok267x256 (fun x h => by cases h; exact tyv139) AllK.nil
theorem tyok331x256 : AllK tyP 331 256 ty331x256 := AllK.node AllK.nil (fun x h => by cases h; exact tyv331) AllK.nil
theorem tyok203x128 : AllK tyP 203 128 ty203x128 := AllK.node tyok331x256 (fun x h => by cases h; exact tyv203) AllK.nil
theorem tyok75x64 : AllK tyP 75 64 ty75x64 := AllK.node tyok139x128 (fun _ h => nomatch h) tyok203x128
theorem tyok299x256 : AllK tyP 299 256 ty299x256 := AllK.node AllK.nil (fun _ h => nomatch h) AllK.nil
theorem tyok171x128 : AllK tyP 171 128 ty171x128 := AllK.node tyok299x256 (fun x h => by cases h; exact tyv171) AllK.nil
theorem tyok363x256 : AllK tyP 363 256 ty363x256 := AllK.node AllK.nil (fun x h => by cases h; exact tyv363) AllK.nil
theorem tyok235x128 : AllK tyP 235 128 ty235x128 := AllK.node tyok363x256 (fun x h => by cases h; exact tyv235) AllK.nil
theorem tyok107x64 : AllK tyP 107 64 ty107x64 := AllK.node tyok171x128 (fun x h => by cases h; exact tyv107) tyok235x128
theorem tyok43x32 : AllK tyP 43 32 ty43x32 := AllK.node tyok75x64 (fun x h => by cases h; exact tyv43) tyok107x64
theorem tyok283x256 : AllK tyP 283 256 ty283x256 := AllK.node AllK.nil (fun x h => by cases h; exact tyv283) AllK.nil
theorem tyok155x128 : AllK tyP 155 128 ty155x128 := AllK.node tyok283x256 (fun x h => by cases h; exact tyv155) AllK.nil
theorem tyok347x256 : AllK tyP 347 256 ty347x256 := AllK.node AllK.nil (fun x h => by cases h; exact tyv347) AllK.nil
theorem tyok219x128 : AllK tyP 219 128 ty219x128 := AllK.node tyok347x256 (fun _ h => nomatch h) AllK.nil
theorem tyok91x64 : AllK tyP 91 64 ty91x64 := AllK.node tyok155x128 (fun _ h => nomatch h) tyok219x128
theorem tyok315x256 : AllK tyP 315 256 ty315x256 := AllK.node AllK.nil (fun x h => by cases h; exact tyv315) AllK.nil
theorem tyok187x128 : AllK tyP 187 128 ty187x128 := AllK.node tyok315x256 (fun x h => by cases h; exact tyv187) AllK.nil
theorem tyok379x256 : AllK tyP 379 256 ty379x256 := AllK.node AllK.nil (fun x h => by cases h; exact tyv379) AllK.nil
theorem tyok251x128 : AllK tyP 251 128 ty251x128 := AllK.node tyok379x256 (fun x h => by cases h; exact tyv251) AllK.nil
theorem tyok123x64 : AllK tyP 123 64 ty123x64 := AllK.node tyok187x128 (fun x h => by cases h; exact tyv123) tyok251x128
theorem tyok59x32 : AllK tyP 59 32 ty59x32 := AllK.node tyok91x64 (fun _ h => nomatch h) tyok123x64
theorem tyok27x16 : AllK tyP 27 16 ty27x16 := AllK.node tyok43x32 (fun x h => by cases h; exact tyv27) tyok59x32
theorem tyok11x8 : AllK tyP 11 8 ty11x8 := AllK.node tyok19x16 (fun x h => by cases h; exact tyv11) tyok27x16
theorem tyok3x4 : AllK tyP 3 4 ty3x4 := AllK.node tyok7x8 (fun x h => by cases h; exact tyv3) tyok11x8
theorem tyok257x256 : AllK tyP 257 256 ty257x256 := AllK.node AllK.nil (fun x h => by cases h; exact tyv257) AllK.nil
theorem tyok385x256 : AllK tyP 385 256 ty385x256 := AllK.node AllK.nil (fun x h => by cases h; exact tyv385) AllK.nil
theorem tyok129x128 : AllK tyP 129 128 ty129x128 := AllK.node tyok257x256 (fun x h => by cases h; exact tyv129) tyok385x256
theorem tyok321x256 : AllK tyP 321 256 ty321x256 := AllK.node AllK.nil (fun _ h => nomatch h) AllK.nil
theorem tyok193x128 : AllK tyP 193 128 ty193x128 := AllK.node tyok321x256 (fun x h => by cases h; exact tyv193) AllK.nil
theorem tyok65x64 : AllK tyP 65 64 ty65x64 := AllK.node tyok129x128 (fun x h => by cases h; exact tyv65) tyok193x128
theorem tyok289x256 : AllK tyP 289 256 ty289x256 := AllK.node AllK.nil (fun x h => by cases h; exact tyv289) AllK.nil
theorem tyok161x128 : AllK tyP 161 128 ty161x128 := AllK.node tyok289x256 (fun x h => by cases h; exact tyv161) AllK.nil
theorem tyok353x256 : AllK tyP 353 256 ty353x256 := AllK.node AllK.nil (fun x h => by cases h; exact tyv353) AllK.nil
theorem tyok225x128 : AllK tyP 225 128 ty225x128 := AllK.node tyok353x256 (fun x h => by cases h; exact tyv225) AllK.nil
theorem tyok97x64 : AllK tyP 97 64 ty97x64 := AllK.node tyok161x128 (fun x h => by cases h; exact tyv97) tyok225x128
theorem tyok33x32 : AllK tyP 33 32 ty33x32 := AllK.node tyok65x64 (fun x h => by cases h; exact tyv33) tyok97x64
theorem tyok273x256 : AllK tyP 273 256 ty273x256 := AllK.node AllK.nil (fun x h => by cases h; exact tyv273) AllK.nil
theorem tyok145x128 : AllK tyP 145 128 ty145x128 := AllK.node tyok273x256 (fun x h => by cases h; exact tyv145) AllK.nil
theorem tyok337x256 : AllK tyP 337 256 ty337x256 := AllK.node AllK.nil (fun x h => by cases h; exact tyv337) AllK.nil
theorem tyok209x128 : AllK tyP 209 128 ty209x128 := AllK.node tyok337x256 (fun x h => by cases h; exact tyv209) AllK.nil
theorem tyok81x64 : AllK tyP 81 64 ty81x64 := AllK.node tyok145x128 (fun x h => by cases h; exact tyv81) tyok209x128
theorem tyok305x256 : AllK tyP 305 256 ty305x256 := AllK.node AllK.nil (fun x h => by cases h; exact tyv305) AllK.nil
theorem tyok177x128 : AllK tyP 177 128 ty177x128 := AllK.node tyok305x256 (fun x h => by cases h; exact tyv177) AllK.nil
theorem tyok369x256 : AllK tyP 369 256 ty369x256 := AllK.node AllK.nil (fun x h => by cases h; exact tyv369) AllK.nil
theorem tyok241x128 : AllK tyP 241 128 ty241x128 := AllK.node tyok369x256 (fun x h => by cases h; exact tyv241) AllK.nil
theorem tyok113x64 : AllK tyP 113 64 ty113x64 := AllK.node tyok177x128 (fun x h => by cases h; exact tyv113) tyok241x128
theorem tyok49x32 : AllK tyP 49 32 ty49x32 := AllK.node tyok81x64 (fun x h => by cases h; exact tyv49) tyok113x64
theorem tyok17x16 : AllK tyP 17 16 ty17x16 := AllK.node tyok33x32 (fun x h => by cases h; exact tyv17) tyok49x32
theorem tyok265x256 : AllK tyP 265 256 ty265x256 := AllK.node AllK.nil (fun x h => by cases h; exact tyv265) AllK.nil
theorem tyok137x128 : AllK tyP 137 128 ty137x128 := AllK.node tyok265x256 (fun x h => by cases h; exact tyv137) AllK.nil
theorem tyok329x256 : AllK tyP 329 256 ty329x256 := AllK.node AllK.nil (fun x h => by cases h; exact tyv329) AllK.nil
theorem tyok201x128 : AllK tyP 201 128 ty201x128 := AllK.node tyok329x256 (fun x h => by cases h; exact tyv201) AllK.nil
theorem tyok73x64 : AllK tyP 73 64 ty73x64 := AllK.node tyok137x128 (fun x h => by cases h; exact tyv73) tyok201x128
theorem tyok297x256 : AllK tyP 297 256 ty297x256 := AllK.node AllK.nil (fun x h => by cases h; exact tyv297) AllK.nil
theorem tyok169x128 : AllK tyP 169 128 ty169x128 := AllK.node tyok297x256 (fun x h => by cases h; exact tyv169) AllK.nil
theorem tyok361x256 : AllK tyP 361 256 ty361x256 := AllK.node AllK.nil (fun x h => by cases h; exact tyv361) AllK.nil
theorem tyok233x128 : AllK tyP 233 128 ty233x128 := AllK.node tyok361x256 (fun x h => by cases h; exact tyv233) AllK.nil
theorem tyok105x64 : AllK tyP 105 64 ty105x64 := AllK.node tyok169x128 (fun x h => by cases h; exact tyv105) tyok233x128
theorem tyok41x32 : AllK tyP 41 32 ty41x32 := AllK.node tyok73x64 (fun x h => by cases h; exact tyv41) tyok105x64
theorem tyok281x256 : AllK tyP 281 256 ty281x256 := AllK.node AllK.nil (fun x h => by cases h; exact tyv281) AllK.nil
theorem tyok153x128 : AllK tyP 153 128 ty153x128 := AllK.node tyok281x256 (fun x h => by cases h; exact tyv153) AllK.nil
theorem tyok345x256 : AllK tyP 345 256 ty345x256 := AllK.node AllK.nil (fun x h => by cases h; exact tyv345) AllK.nil
theorem tyok217x128 : AllK tyP 217 128 ty217x128 := AllK.node tyok345x256 (fun x h => by cases h; exact tyv217) AllK.nil
theorem tyok89x64 : AllK tyP 89 64 ty89x64 := AllK.node tyok153x128 (fun x h => by cases h; exact tyv89) tyok217x128
theorem tyok313x256 : AllK tyP 313 256 ty313x256 := AllK.node AllK.nil (fun x h => by cases h; exact tyv313) AllK.nil
theorem tyok185x128 : AllK tyP 185 128 ty185x128 := AllK.node tyok313x256 (fun x h => by cases h; exact tyv185) AllK.nil
theorem tyok377x256 : AllK tyP 377 256 ty377x256 := AllK.node AllK.nil (fun x h => by cases h; exact tyv377) AllK.nil
theorem tyok249x128 : AllK tyP 249 128 ty249x128 := AllK.node tyok377x256 (fun x h => by cases h; exact tyv249) AllK.nil
theorem tyok121x64 : AllK tyP 121 64 ty121x64 := AllK.node tyok185x128 (fun x h => by cases h; exact tyv121) tyok249x128
theorem tyok57x32 : AllK tyP 57 32 ty57x32 := AllK.node tyok89x64 (fun x h => by cases h; exact tyv57) tyok121x64
theorem tyok25x16 : AllK tyP 25 16 ty25x16 := AllK.node tyok41x32 (fun x h => by cases h; exact tyv25) tyok57x32
theorem tyok9x8 : AllK tyP 9 8 ty9x8 := AllK.node tyok17x16 (fun x h => by cases h; exact tyv9) tyok25x16
theorem tyok261x256 : AllK tyP 261 256 ty261x256 := AllK.node AllK.nil (fun _ h => nomatch h) AllK.nil
theorem tyok389x256 : AllK tyP 389 256 ty389x256 := AllK.node AllK.nil (fun x h => by cases h; exact tyv389) AllK.nil
theorem tyok133x128 : AllK tyP 133 128 ty133x128 := AllK.node tyok261x256 (fun x h => by cases h; exact tyv133) tyok389x256
theorem tyok325x256 : AllK tyP 325 256 ty325x256 := AllK.node AllK.nil (fun x h => by cases h; exact tyv325) AllK.nil
theorem tyok197x128 : AllK tyP 197 128 ty197x128 := AllK.node tyok325x256 (fun x h => by cases h; exact tyv197) AllK.nil
theorem tyok69x64 : AllK tyP 69 64 ty69x64 := AllK.node tyok133x128 (fun x h => by cases h; exact tyv69) tyok197x128
theorem tyok293x256 : AllK tyP 293 256 ty293x256 := AllK.node AllK.nil (fun x h => by cases h; exact tyv293) AllK.nil
theorem tyok165x128 : AllK tyP 165 128 ty165x128 := AllK.node tyok293x256 (fun _ h => nomatch h) AllK.nil
theorem tyok357x256 : AllK tyP 357 256 ty357x256 := AllK.node AllK.nil (fun _ h => nomatch h) AllK.nil
theorem tyok229x128 : AllK tyP 229 128 ty229x128 := AllK.node tyok357x256 (fun x h => by cases h; exact tyv229) AllK.nil
theorem tyok101x64 : AllK tyP 101 64 ty101x64 := AllK.node tyok165x128 (fun x h => by cases h; exact tyv101) tyok229x128
theorem tyok37x32 : AllK tyP 37 32 ty37x32 := AllK.node tyok69x64 (fun x h => by cases h; exact tyv37) tyok101x64
theorem tyok277x256 : AllK tyP 277 256 ty277x256 := AllK.node AllK.nil (fun x h => by cases h; exact tyv277) AllK.nil
theorem tyok149x128 : AllK tyP 149 128 ty149x128 := AllK.node tyok277x256 (fun _ h => nomatch h) AllK.nil
theorem tyok341x256 : AllK tyP 341 256 ty341x256 := AllK.node AllK.nil (fun x h => by cases h; exact tyv341) AllK.nil
theorem tyok213x128 : AllK tyP 213 128 ty213x128 := AllK.node tyok341x256 (fun x h => by cases h; exact tyv213) AllK.nil
theorem tyok85x64 : AllK tyP 85 64 ty85x64 := AllK.node tyok149x128 (fun x h => by cases h; exact tyv85) tyok213x128
theorem tyok309x256 : AllK tyP 309 256 ty309x256 := AllK.node AllK.nil (fun _ h => nomatch h) AllK.nil
theorem tyok181x128 : AllK tyP 181 128 ty181x128 := AllK.node tyok309x256 (fun x h => by cases h; exact tyv181) AllK.nil
theorem tyok373x256 : AllK tyP 373 256 ty373x256 := AllK.node AllK.nil (fun x h => by cases h; exact tyv373) AllK.nil
theorem tyok245x128 : AllK tyP 245 128 ty245x128 := AllK.node tyok373x256 (fun x h => by cases h; exact tyv245) AllK.nil
theorem tyok117x64 : AllK tyP 117 64 ty117x64 := AllK.node tyok181x128 (fun x h => by cases h; exact tyv117) tyok245x128
theorem tyok53x32 : AllK tyP 53 32 ty53x32 := AllK.node tyok85x64 (fun x h => by cases h; exact tyv53) tyok117x64
theorem tyok21x16 : AllK tyP 21 16 ty21x16 := AllK.node tyok37x32 (fun x h => by cases h; exact tyv21) tyok53x32
theorem tyok269x256 : AllK tyP 269 256 ty269x256 := AllK.node AllK.nil (fun x h => by cases h; exact tyv269) AllK.nil
theorem tyok141x128 : AllK tyP 141 128 ty141x128 := AllK.node tyok269x256 (fun x h => by cases h; exact tyv141) AllK.nil
theorem tyok333x256 : AllK tyP 333 256 ty333x256 := AllK.node AllK.nil (fun x h => by cases h; exact tyv333) AllK.nil
theorem tyok205x128 : AllK tyP 205 128 ty205x128 := AllK.node tyok333x256 (fun x h => by cases h; exact tyv205) AllK.nil
theorem tyok77x64 : AllK tyP 77 64 ty77x64 := AllK.node tyok141x128 (fun x h => by cases h; exact tyv77) tyok205x128
theorem tyok301x256 : AllK tyP 301 256 ty301x256 := AllK.node AllK.nil (fun x h => by cases h; exact tyv301) AllK.nil
theorem tyok173x128 : AllK tyP 173 128 ty173x128 := AllK.node tyok301x256 (fun x h => by cases h; exact tyv173) AllK.nil
theorem tyok365x256 : AllK tyP 365 256 ty365x256 := AllK.node AllK.nil (fun x h => by cases h; exact tyv365) AllK.nil
theorem tyok237x128 : AllK tyP 237 128 ty237x128 := AllK.node tyok365x256 (fun x h => by cases h; exact tyv237) AllK.nil
theorem tyok109x64 : AllK tyP 109 64 ty109x64 := AllK.node tyok173x128 (fun x h => by cases h; exact tyv109) tyok237x128
theorem tyok45x32 : AllK tyP 45 32 ty45x32 := AllK.node tyok77x64 (fun x h => by cases h; exact tyv45) tyok109x64
theorem tyok285x256 : AllK tyP 285 256 ty285x256 := AllK.node AllK.nil (fun x h => by cases h; exact tyv285) AllK.nil
theorem tyok157x128 : AllK tyP 157 128 ty157x128 := AllK.node tyok285x256 (fun x h => by cases h; exact tyv157) AllK.nil
theorem tyok349x256 : AllK tyP 349 256 ty349x256 := AllK.node AllK.nil (fun x h => by cases h; exact tyv349) AllK.nil
theorem tyok221x128 : AllK tyP 221 128 ty221x128 := AllK.node tyok349x256 (fun x h => by cases h; exact tyv221) AllK.nil
theorem tyok93x64 : AllK tyP 93 64 ty93x64 := AllK.node tyok157x128 (fun x h => by cases h; exact tyv93) tyok221x128
theorem tyok317x256 : AllK tyP 317 256 ty317x256 := AllK.node AllK.nil (fun x h => by cases h; exact tyv317) AllK.nil
theorem tyok189x128 : AllK tyP 189 128 ty189x128 := AllK.node tyok317x256 (fun x h => by cases h; exact tyv189) AllK.nil
theorem tyok381x256 : AllK tyP 381 256 ty381x256 := AllK.node AllK.nil (fun x h => by cases h; exact tyv381) AllK.nil
theorem tyok253x128 : AllK tyP 253 128 ty253x128 := AllK.node tyok381x256 (fun x h => by cases h; exact tyv253) AllK.nil
theorem tyok125x64 : AllK tyP 125 64 ty125x64 := AllK.node tyok189x128 (fun x h => by cases h; exact tyv125) tyok253x128
theorem tyok61x32 : AllK tyP 61 32 ty61x32 := AllK.node tyok93x64 (fun x h => by cases h; exact tyv61) tyok125x64
theorem tyok29x16 : AllK tyP 29 16 ty29x16 := AllK.node tyok45x32 (fun _ h => nomatch h) tyok61x32
theorem tyok13x8 : AllK tyP 13 8 ty13x8 := AllK.node tyok21x16 (fun x h => by cases h; exact tyv13) tyok29x16
theorem tyok5x4 : AllK tyP 5 4 ty5x4 := AllK.node tyok9x8 (fun x h => by cases h; exact tyv5) tyok13x8
theorem tyok1x2 : AllK tyP 1 2 ty1x2 := AllK.node tyok3x4 (fun x h => by cases h; exact tyv1) tyok5x4
theorem tyok256x256 : AllK tyP 256 256 ty256x256 := AllK.node AllK.nil (fun x h => by cases h; exact tyv256) AllK.nil
theorem tyok384x256 : AllK tyP 384 256 ty384x256 := AllK.node AllK.nil (fun x h => by cases h; exact tyv384) AllK.nil
theorem tyok128x128 : AllK tyP 128 128 ty128x128 := AllK.node tyok256x256 (fun x h => by cases h; exact tyv128) tyok384x256
theorem tyok320x256 : AllK tyP 320 256 ty320x256 := AllK.node AllK.nil (fun x h => by cases h; exact tyv320) AllK.nil
theorem tyok192x128 : AllK tyP 192 128 ty192x128 := AllK.node tyok320x256 (fun x h => by cases h; exact tyv192) AllK.nil
theorem tyok64x64 : AllK tyP 64 64 ty64x64 := AllK.node tyok128x128 (fun x h => by cases h; exact tyv64) tyok192x128
theorem tyok288x256 : AllK tyP 288 256 ty288x256 := AllK.node AllK.nil (fun _ h => nomatch h) AllK.nil
theorem tyok160x128 : AllK tyP 160 128 ty160x128 := AllK.node tyok288x256 (fun x h => by cases h; exact tyv160) AllK.nil
theorem tyok352x256 : AllK tyP 352 256 ty352x256 := AllK.node AllK.nil (fun x h => by cases h; exact tyv352) AllK.nil
theorem tyok224x128 : AllK tyP 224 128 ty224x128 := AllK.node tyok352x256 (fun x h => by cases h; exact tyv224) AllK.nil
theorem tyok96x64 : AllK tyP 96 64 ty96x64 := AllK.node tyok160x128 (fun x h => by cases h; exact tyv96) tyok224x128
theorem tyok32x32 : AllK tyP 32 32 ty32x32 := AllK.node tyok64x64 (fun x h => by cases h; exact tyv32) tyok96x64
theorem tyok272x256 : AllK tyP 272 256 ty272x256 := AllK.node AllK.nil (fun x h => by cases h; exact tyv272) AllK.nil
theorem tyok144x128 : AllK tyP 144 128 ty144x128 := AllK.node tyok272x256 (fun x h => by cases h; exact tyv144) AllK.nil
theorem tyok336x256 : AllK tyP 336 256 ty336x256 := AllK.node AllK.nil (fun x h => by cases h; exact tyv336) AllK.nil
theorem tyok208x128 : AllK tyP 208 128 ty208x128 := AllK.node tyok336x256 (fun x h => by cases h; exact tyv208) AllK.nil
theorem tyok80x64 : AllK tyP 80 64 ty80x64 := AllK.node tyok144x128 (fun x h => by cases h; exact tyv80) tyok208x128
theorem tyok304x256 : AllK tyP 304 256 ty304x256 := AllK.node AllK.nil (fun x h => by cases h; exact tyv304) AllK.nil
theorem tyok176x128 : AllK tyP 176 128 ty176x128 := AllK.node tyok304x256 (fun _ h => nomatch h) AllK.nil
theorem tyok368x256 : AllK tyP 368 256 ty368x256 := AllK.node AllK.nil (fun x h => by cases h; exact tyv368) AllK.nil
theorem tyok240x128 : AllK tyP 240 128 ty240x128 := AllK.node tyok368x256 (fun x h => by cases h; exact tyv240) AllK.nil
theorem tyok112x64 : AllK tyP 112 64 ty112x64 := AllK.node tyok176x128 (fun x h => by cases h; exact tyv112) tyok240x128
theorem tyok48x32 : AllK tyP 48 32 ty48x32 := AllK.node tyok80x64 (fun x h => by cases h; exact tyv48) tyok112x64
theorem tyok16x16 : AllK tyP 16 16 ty16x16 := AllK.node tyok32x32 (fun x h => by cases h; exact tyv16) tyok48x32
theorem tyok264x256 : AllK tyP 264 256 ty264x256 := AllK.node AllK.nil (fun x h => by cases h; exact tyv264) AllK.nil
theorem tyok136x128 : AllK tyP 136 128 ty136x128 := AllK.node tyok264x256 (fun x h => by cases h; exact tyv136) AllK.nil
theorem tyok328x256 : AllK tyP 328 256 ty328x256 := AllK.node AllK.nil (fun x h => by cases h; exact tyv328) AllK.nil
theorem tyok200x128 : AllK tyP 200 128 ty200x128 := AllK.node tyok328x256 (fun x h => by cases h; exact tyv200) AllK.nil
theorem tyok72x64 : AllK tyP 72 64 ty72x64 := AllK.node tyok136x128 (fun x h => by cases h; exact tyv72) tyok200x128
theorem tyok296x256 : AllK tyP 296 256 ty296x256 := AllK.node AllK.nil (fun x h => by cases h; exact tyv296) AllK.nil
theorem tyok168x128 : AllK tyP 168 128 ty168x128 := AllK.node tyok296x256 (fun x h => by cases h; exact tyv168) AllK.nil
theorem tyok360x256 : AllK tyP 360 256 ty360x256 := AllK.node AllK.nil (fun x h => by cases h; exact tyv360) AllK.nil
theorem tyok232x128 : AllK tyP 232 128 ty232x128 := AllK.node tyok360x256 (fun x h => by cases h; exact tyv232) AllK.nil
theorem tyok104x64 : AllK tyP 104 64 ty104x64 := AllK.node tyok168x128 (fun x h => by cases h; exact tyv104) tyok232x128
theorem tyok40x32 : AllK tyP 40 32 ty40x32 := AllK.node tyok72x64 (fun x h => by cases h; exact tyv40) tyok104x64
theorem tyok280x256 : AllK tyP 280 256 ty280x256 := AllK.node AllK.nil (fun x h => by cases h; exact tyv280) AllK.nil
theorem tyok152x128 : AllK tyP 152 128 ty152x128 := AllK.node tyok280x256 (fun _ h => nomatch h) AllK.nil
theorem tyok344x256 : AllK tyP 344 256 ty344x256 := AllK.node AllK.nil (fun _ h => nomatch h) AllK.nil
theorem tyok216x128 : AllK tyP 216 128 ty216x128 := AllK.node tyok344x256 (fun x h => by cases h; exact tyv216) AllK.nil
theorem tyok88x64 : AllK tyP 88 64 ty88x64 := AllK.node tyok152x128 (fun x h => by cases h; exact tyv88) tyok216x128
theorem tyok312x256 : AllK tyP 312 256 ty312x256 := AllK.node AllK.nil (fun x h => by cases h; exact tyv312) AllK.nil
theorem tyok184x128 : AllK tyP 184 128 ty184x128 := AllK.node tyok312x256 (fun x h => by cases h; exact tyv184) AllK.nil
theorem tyok376x256 : AllK tyP 376 256 ty376x256 := AllK.node AllK.nil (fun x h => by cases h; exact tyv376) AllK.nil
theorem tyok248x128 : AllK tyP 248 128 ty248x128 := AllK.node tyok376x256 (fun x h => by cases h; exact tyv248) AllK.nil
theorem tyok120x64 : AllK tyP 120 64 ty120x64 := AllK.node tyok184x128 (fun x h => by cases h; exact tyv120) tyok248x128
theorem tyok56x32 : AllK tyP 56 32 ty56x32 := AllK.node tyok88x64 (fun x h => by cases h; exact tyv56) tyok120x64
theorem tyok24x16 : AllK tyP 24 16 ty24x16 := AllK.node tyok40x32 (fun x h => by cases h; exact tyv24) tyok56x32
theorem tyok8x8 : AllK tyP 8 8 ty8x8 := AllK.node tyok16x16 (fun x h => by cases h; exact tyv8) tyok24x16
theorem tyok260x256 : AllK tyP 260 256 ty260x256 := AllK.node AllK.nil (fun x h => by cases h; exact tyv260) AllK.nil
theorem tyok388x256 : AllK tyP 388 256 ty388x256 := AllK.node AllK.nil (fun x h => by cases h; exact tyv388) AllK.nil
theorem tyok132x128 : AllK tyP 132 128 ty132x128 := AllK.node tyok260x256 (fun x h => by cases h; exact tyv132) tyok388x256
theorem tyok324x256 : AllK tyP 324 256 ty324x256 := AllK.node AllK.nil (fun x h => by cases h; exact tyv324) AllK.nil
theorem tyok196x128 : AllK tyP 196 128 ty196x128 := AllK.node tyok324x256 (fun x h => by cases h; exact tyv196) AllK.nil
theorem tyok68x64 : AllK tyP 68 64 ty68x64 := AllK.node tyok132x128 (fun x h => by cases h; exact tyv68) tyok196x128
theorem tyok292x256 : AllK tyP 292 256 ty292x256 := AllK.node AllK.nil (fun x h => by cases h; exact tyv292) AllK.nil
theorem tyok164x128 : AllK tyP 164 128 ty164x128 := AllK.node tyok292x256 (fun x h => by cases h; exact tyv164) AllK.nil
theorem tyok356x256 : AllK tyP 356 256 ty356x256 := AllK.node AllK.nil (fun x h => by cases h; exact tyv356) AllK.nil
theorem tyok228x128 : AllK tyP 228 128 ty228x128 := AllK.node tyok356x256 (fun x h => by cases h; exact tyv228) AllK.nil
theorem tyok100x64 : AllK tyP 100 64 ty100x64 := AllK.node tyok164x128 (fun x h => by cases h; exact tyv100) tyok228x128
theorem tyok36x32 : AllK tyP 36 32 ty36x32 := AllK.node tyok68x64 (fun x h => by cases h; exact tyv36) tyok100x64
theorem tyok276x256 : AllK tyP 276 256 ty276x256 := AllK.node AllK.nil (fun x h => by cases h; exact tyv276) AllK.nil
theorem tyok148x128 : AllK tyP 148 128 ty148x128 := AllK.node tyok276x256 (fun x h => by cases h; exact tyv148) AllK.nil
theorem tyok340x256 : AllK tyP 340 256 ty340x256 := AllK.node AllK.nil (fun x h => by cases h; exact tyv340) AllK.nil
theorem tyok212x128 : AllK tyP 212 128 ty212x128 := AllK.node tyok340x256 (fun x h => by cases h; exact tyv212) AllK.nil
theorem tyok84x64 : AllK tyP 84 64 ty84x64 := AllK.node tyok148x128 (fun x h => by cases h; exact tyv84) tyok212x128
theorem tyok308x256 : AllK tyP 308 256 ty308x256 := AllK.node AllK.nil (fun x h => by cases h; exact tyv308) AllK.nil
theorem tyok180x128 : AllK tyP 180 128 ty180x128 := AllK.node tyok308x256 (fun x h => by cases h; exact tyv180) AllK.nil
theorem tyok372x256 : AllK tyP 372 256 ty372x256 := AllK.node AllK.nil (fun x h => by cases h; exact tyv372) AllK.nil
theorem tyok244x128 : AllK tyP 244 128 ty244x128 := AllK.node tyok372x256 (fun x h => by cases h; exact tyv244) AllK.nil
theorem tyok116x64 : AllK tyP 116 64 ty116x64 := AllK.node tyok180x128 (fun _ h => nomatch h) tyok244x128
theorem tyok52x32 : AllK tyP 52 32 ty52x32 := AllK.node tyok84x64 (fun x h => by cases h; exact tyv52) tyok116x64
theorem tyok20x16 : AllK tyP 20 16 ty20x16 := AllK.node tyok36x32 (fun x h => by cases h; exact tyv20) tyok52x32
theorem tyok268x256 : AllK tyP 268 256 ty268x256 := AllK.node AllK.nil (fun x h => by cases h; exact tyv268) AllK.nil
theorem tyok140x128 : AllK tyP 140 128 ty140x128 := AllK.node tyok268x256 (fun x h => by cases h; exact tyv140) AllK.nil
theorem tyok332x256 : AllK tyP 332 256 ty332x256 := AllK.node AllK.nil (fun x h => by cases h; exact tyv332) AllK.nil
theorem tyok204x128 : AllK tyP 204 128 ty204x128 := AllK.node tyok332x256 (fun x h => by cases h; exact tyv204) AllK.nil
theorem tyok76x64 : AllK tyP 76 64 ty76x64 := AllK.node tyok140x128 (fun x h => by cases h; exact tyv76) tyok204x128
theorem tyok300x256 : AllK tyP 300 256 ty300x256 := AllK.node AllK.nil (fun x h => by cases h; exact tyv300) AllK.nil
theorem tyok172x128 : AllK tyP 172 128 ty172x128 := AllK.node tyok300x256 (fun x h => by cases h; exact tyv172) AllK.nil
theorem tyok364x256 : AllK tyP 364 256 ty364x256 := AllK.node AllK.nil (fun x h => by cases h; exact tyv364) AllK.nil
theorem tyok236x128 : AllK tyP 236 128 ty236x128 := AllK.node tyok364x256 (fun x h => by cases h; exact tyv236) AllK.nil
theorem tyok108x64 : AllK tyP 108 64 ty108x64 := AllK.node tyok172x128 (fun x h => by cases h; exact tyv108) tyok236x128
theorem tyok44x32 : AllK tyP 44 32 ty44x32 := AllK.node tyok76x64 (fun _ h => nomatch h) tyok108x64
theorem tyok284x256 : AllK tyP 284 256 ty284x256 := AllK.node AllK.nil (fun x h => by cases h; exact tyv284) AllK.nil
theorem tyok156x128 : AllK tyP 156 128 ty156x128 := AllK.node tyok284x256 (fun x h => by cases h; exact tyv156) AllK.nil
theorem tyok348x256 : AllK tyP 348 256 ty348x256 := AllK.node AllK.nil (fun x h => by cases h; exact tyv348) AllK.nil
theorem tyok220x128 : AllK tyP 220 128 ty220x128 := AllK.node tyok348x256 (fun x h => by cases h; exact tyv220) AllK.nil
theorem tyok92x64 : AllK tyP 92 64 ty92x64 := AllK.node tyok156x128 (fun x h => by cases h; exact tyv92) tyok220x128
theorem tyok316x256 : AllK tyP 316 256 ty316x256 := AllK.node AllK.nil (fun x h => by cases h; exact tyv316) AllK.nil
theorem tyok188x128 : AllK tyP 188 128 ty188x128 := AllK.node tyok316x256 (fun x h => by cases h; exact tyv188) AllK.nil
theorem tyok380x256 : AllK tyP 380 256 ty380x256 := AllK.node AllK.nil (fun x h => by cases h; exact tyv380) AllK.nil
theorem tyok252x128 : AllK tyP 252 128 ty252x128 := AllK.node tyok380x256 (fun x h => by cases h; exact tyv252) AllK.nil
theorem tyok124x64 : AllK tyP 124 64 ty124x64 := AllK.node tyok188x128 (fun x h => by cases h; exact tyv124) tyok252x128
theorem tyok60x32 : AllK tyP 60 32 ty60x32 := AllK.node tyok92x64 (fun x h => by cases h; exact tyv60) tyok124x64
theorem tyok28x16 : AllK tyP 28 16 ty28x16 := AllK.node tyok44x32 (fun x h => by cases h; exact tyv28) tyok60x32
theorem tyok12x8 : AllK tyP 12 8 ty12x8 := AllK.node tyok20x16 (fun x h => by cases h; exact tyv12) tyok28x16
theorem tyok4x4 : AllK tyP 4 4 ty4x4 := AllK.node tyok8x8 (fun x h => by cases h; exact tyv4) tyok12x8
theorem tyok258x256 : AllK tyP 258 256 ty258x256 := AllK.node AllK.nil (fun _ h => nomatch h) AllK.nil
theorem tyok386x256 : AllK tyP 386 256 ty386x256 := AllK.node AllK.nil (fun x h => by cases h; exact tyv386) AllK.nil
theorem tyok130x128 : AllK tyP 130 128 ty130x128 := AllK.node tyok258x256 (fun x h => by cases h; exact tyv130) tyok386x256
theorem tyok322x256 : AllK tyP 322 256 ty322x256 := AllK.node AllK.nil (fun x h => by cases h; exact tyv322) AllK.nil
theorem tyok194x128 : AllK tyP 194 128 ty194x128 := AllK.node tyok322x256 (fun x h => by cases h; exact tyv194) AllK.nil
theorem tyok66x64 : AllK tyP 66 64 ty66x64 := AllK.node tyok130x128 (fun _ h => nomatch h) tyok194x128
theorem tyok290x256 : AllK tyP 290 256 ty290x256 := AllK.node AllK.nil (fun x h => by cases h; exact tyv290) AllK.nil
theorem tyok162x128 : AllK tyP 162 128 ty162x128 := AllK.node tyok290x256 (fun x h => by cases h; exact tyv162) AllK.nil
theorem tyok354x256 : AllK tyP 354 256 ty354x256 := AllK.node AllK.nil (fun x h => by cases h; exact tyv354) AllK.nil
theorem tyok226x128 : AllK tyP 226 128 ty226x128 := AllK.node tyok354x256 (fun _ h => nomatch h) AllK.nil
theorem tyok98x64 : AllK tyP 98 64 ty98x64 := AllK.node tyok162x128 (fun x h => by cases h; exact tyv98) tyok226x128
theorem tyok34x32 : AllK tyP 34 32 ty34x32 := AllK.node tyok66x64 (fun x h => by cases h; exact tyv34) tyok98x64
theorem tyok274x256 : AllK tyP 274 256 ty274x256 := AllK.node AllK.nil (fun x h => by cases h; exact tyv274) AllK.nil
theorem tyok146x128 : AllK tyP 146 128 ty146x128 := AllK.node tyok274x256 (fun x h => by cases h; exact tyv146) AllK.nil
theorem tyok338x256 : AllK tyP 338 256 ty338x256 := AllK.node AllK.nil (fun x h => by cases h; exact tyv338) AllK.nil
theorem tyok210x128 : AllK tyP 210 128 ty210x128 := AllK.node tyok338x256 (fun x h => by cases h; exact tyv210) AllK.nil
theorem tyok82x64 : AllK tyP 82 64 ty82x64 := AllK.node tyok146x128 (fun x h => by cases h; exact tyv82) tyok210x128
theorem tyok306x256 : AllK tyP 306 256 ty306x256 := AllK.node AllK.nil (fun x h => by cases h; exact tyv306) AllK.nil
theorem tyok178x128 : AllK tyP 178 128 ty178x128 := AllK.node tyok306x256 (fun x h => by cases h; exact tyv178) AllK.nil
theorem tyok370x256 : AllK tyP 370 256 ty370x256 := AllK.node AllK.nil (fun x h => by cases h; exact tyv370) AllK.nil
theorem tyok242x128 : AllK tyP 242 128 ty242x128 := AllK.node tyok370x256 (fun x h => by cases h; exact tyv242) AllK.nil
theorem tyok114x64 : AllK tyP 114 64 ty114x64 := AllK.node tyok178x128 (fun x h => by cases h; exact tyv114) tyok242x128
theorem tyok50x32 : AllK tyP 50 32 ty50x32 := AllK.node tyok82x64 (fun x h => by cases h; exact tyv50) tyok114x64
theorem tyok18x16 : AllK tyP 18 16 ty18x16 := AllK.node tyok34x32 (fun x h => by cases h; exact tyv18) tyok50x32
theorem tyok266x256 : AllK tyP 266 256 ty266x256 := AllK.node AllK.nil (fun x h => by cases h; exact tyv266) AllK.nil
theorem tyok138x128 : AllK tyP 138 128 ty138x128 := AllK.node tyok266x256 (fun x h => by cases h; exact tyv138) AllK.nil
theorem tyok330x256 : AllK tyP 330 256 ty330x256 := AllK.node AllK.nil (fun _ h => nomatch h) AllK.nil
theorem tyok202x128 : AllK tyP 202 128 ty202x128 := AllK.node tyok330x256 (fun x h => by cases h; exact tyv202) AllK.nil
theorem tyok74x64 : AllK tyP 74 64 ty74x64 := AllK.node tyok138x128 (fun x h => by cases h; exact tyv74) tyok202x128
theorem tyok298x256 : AllK tyP 298 256 ty298x256 := AllK.node AllK.nil (fun x h => by cases h; exact tyv298) AllK.nil
theorem tyok170x128 : AllK tyP 170 128 ty170x128 := AllK.node tyok298x256 (fun x h => by cases h; exact tyv170) AllK.nil
theorem tyok362x256 : AllK tyP 362 256 ty362x256 := AllK.node AllK.nil (fun x h => by cases h; exact tyv362) AllK.nil
theorem tyok234x128 : AllK tyP 234 128 ty234x128 := AllK.node tyok362x256 (fun x h => by cases h; exact tyv234) AllK.nil
theorem tyok106x64 : AllK tyP 106 64 ty106x64 := AllK.node tyok170x128 (fun x h => by cases h; exact tyv106) tyok234x128
theorem tyok42x32 : AllK tyP 42 32 ty42x32 := AllK.node tyok74x64 (fun x h => by cases h; exact tyv42) tyok106x64
theorem tyok282x256 : AllK tyP 282 256 ty282x256 := AllK.node AllK.nil (fun x h => by cases h; exact tyv282) AllK.nil
theorem tyok154x128 : AllK tyP 154 128 ty154x128 := AllK.node tyok282x256 (fun x h => by cases h; exact tyv154) AllK.nil
theorem tyok346x256 : AllK tyP 346 256 ty346x256 := AllK.node AllK.nil (fun x h => by cases h; exact tyv346) AllK.nil
theorem tyok218x128 : AllK tyP 218 128 ty218x128 := AllK.node tyok346x256 (fun x h => by cases h; exact tyv218) AllK.nil
theorem tyok90x64 : AllK tyP 90 64 ty90x64 := AllK.node tyok154x128 (fun x h => by cases h; exact tyv90) tyok218x128
theorem tyok314x256 : AllK tyP 314 256 ty314x256 := AllK.node AllK.nil (fun x h => by cases h; exact tyv314) AllK.nil
theorem tyok186x128 : AllK tyP 186 128 ty186x128 := AllK.node tyok314x256 (fun _ h => nomatch h) AllK.nil
theorem tyok378x256 : AllK tyP 378 256 ty378x256 := AllK.node AllK.nil (fun x h => by cases h; exact tyv378) AllK.nil
theorem tyok250x128 : AllK tyP 250 128 ty250x128 := AllK.node tyok378x256 (fun x h => by cases h; exact tyv250) AllK.nil
theorem tyok122x64 : AllK tyP 122 64 ty122x64 := AllK.node tyok186x128 (fun x h => by cases h; exact tyv122) tyok250x128
theorem tyok58x32 : AllK tyP 58 32 ty58x32 := AllK.node tyok90x64 (fun x h => by cases h; exact tyv58) tyok122x64
theorem tyok26x16 : AllK tyP 26 16 ty26x16 := AllK.node tyok42x32 (fun x h => by cases h; exact tyv26) tyok58x32
theorem tyok10x8 : AllK tyP 10 8 ty10x8 := AllK.node tyok18x16 (fun x h => by cases h; exact tyv10) tyok26x16
theorem tyok262x256 : AllK tyP 262 256 ty262x256 := AllK.node AllK.nil (fun x h => by cases h; exact tyv262) AllK.nil
theorem tyok390x256 : AllK tyP 390 256 ty390x256 := AllK.node AllK.nil (fun x h => by cases h; exact tyv390) AllK.nil
theorem tyok134x128 : AllK tyP 134 128 ty134x128 := AllK.node tyok262x256 (fun x h => by cases h; exact tyv134) tyok390x256
theorem tyok326x256 : AllK tyP 326 256 ty326x256 := AllK.node AllK.nil (fun _ h => nomatch h) AllK.nil
theorem tyok198x128 : AllK tyP 198 128 ty198x128 := AllK.node tyok326x256 (fun _ h => nomatch h) AllK.nil
theorem tyok70x64 : AllK tyP 70 64 ty70x64 := AllK.node tyok134x128 (fun x h => by cases h; exact tyv70) tyok198x128
theorem tyok294x256 : AllK tyP 294 256 ty294x256 := AllK.node AllK.nil (fun x h => by cases h; exact tyv294) AllK.nil
theorem tyok166x128 : AllK tyP 166 128 ty166x128 := AllK.node tyok294x256 (fun x h => by cases h; exact tyv166) AllK.nil
theorem tyok358x256 : AllK tyP 358 256 ty358x256 := AllK.node AllK.nil (fun _ h => nomatch h) AllK.nil
theorem tyok230x128 : AllK tyP 230 128 ty230x128 := AllK.node tyok358x256 (fun x h => by cases h; exact tyv230) AllK.nil
theorem tyok102x64 : AllK tyP 102 64 ty102x64 := AllK.node tyok166x128 (fun _ h => nomatch h) tyok230x128
theorem tyok38x32 : AllK tyP 38 32 ty38x32 := AllK.node tyok70x64 (fun x h => by cases h; exact tyv38) tyok102x64
theorem tyok278x256 : AllK tyP 278 256 ty278x256 := AllK.node AllK.nil (fun x h => by cases h; exact tyv278) AllK.nil
theorem tyok150x128 : AllK tyP 150 128 ty150x128 := AllK.node tyok278x256 (fun x h => by cases h; exact tyv150) AllK.nil
theorem tyok342x256 : AllK tyP 342 256 ty342x256 := AllK.node AllK.nil (fun x h => by cases h; exact tyv342) AllK.nil
theorem tyok214x128 : AllK tyP 214 128 ty214x128 := AllK.node tyok342x256 (fun x h => by cases h; exact tyv214) AllK.nil
theorem tyok86x64 : AllK tyP 86 64 ty86x64 := AllK.node tyok150x128 (fun x h => by cases h; exact tyv86) tyok214x128
theorem tyok310x256 : AllK tyP 310 256 ty310x256 := AllK.node AllK.nil (fun x h => by cases h; exact tyv310) AllK.nil
theorem tyok182x128 : AllK tyP 182 128 ty182x128 := AllK.node tyok310x256 (fun x h => by cases h; exact tyv182) AllK.nil
theorem tyok374x256 : AllK tyP 374 256 ty374x256 := AllK.node AllK.nil (fun x h => by cases h; exact tyv374) AllK.nil
theorem tyok246x128 : AllK tyP 246 128 ty246x128 := AllK.node tyok374x256 (fun x h => by cases h; exact tyv246) AllK.nil
theorem tyok118x64 : AllK tyP 118 64 ty118x64 := AllK.node tyok182x128 (fun x h => by cases h; exact tyv118) tyok246x128
theorem tyok54x32 : AllK tyP 54 32 ty54x32 := AllK.node tyok86x64 (fun x h => by cases h; exact tyv54) tyok118x64
theorem tyok22x16 : AllK tyP 22 16 ty22x16 := AllK.node tyok38x32 (fun x h => by cases h; exact tyv22) tyok54x32
theorem tyok270x256 : AllK tyP 270 256 ty270x256 := AllK.node AllK.nil (fun x h => by cases h; exact tyv270) AllK.nil
theorem tyok142x128 : AllK tyP 142 128 ty142x128 := AllK.node tyok270x256 (fun x h => by cases h; exact tyv142) AllK.nil
theorem tyok334x256 : AllK tyP 334 256 ty334x256 := AllK.node AllK.nil (fun x h => by cases h; exact tyv334) AllK.nil
theorem tyok206x128 : AllK tyP 206 128 ty206x128 := AllK.node tyok334x256 (fun x h => by cases h; exact tyv206) AllK.nil
theorem tyok78x64 : AllK tyP 78 64 ty78x64 := AllK.node tyok142x128 (fun x h => by cases h; exact tyv78) tyok206x128
theorem tyok302x256 : AllK tyP 302 256 ty302x256 := AllK.node AllK.nil (fun x h => by cases h; exact tyv302) AllK.nil
theorem tyok174x128 : AllK tyP 174 128 ty174x128 := AllK.node tyok302x256 (fun x h => by cases h; exact tyv174) AllK.nil
theorem tyok366x256 : AllK tyP 366 256 ty366x256 := AllK.node AllK.nil (fun x h => by cases h; exact tyv366) AllK.nil
theorem tyok238x128 : AllK tyP 238 128 ty238x128 := AllK.node tyok366x256 (fun _ h => nomatch h) AllK.nil
theorem tyok110x64 : AllK tyP 110 64 ty110x64 := AllK.node tyok174x128 (fun x h => by cases h; exact tyv110) tyok238x128
theorem tyok46x32 : AllK tyP 46 32 ty46x32 := AllK.node tyok78x64 (fun x h => by cases h; exact tyv46) tyok110x64
theorem tyok286x256 : AllK tyP 286 256 ty286x256 := AllK.node AllK.nil (fun x h => by cases h; exact tyv286) AllK.nil
theorem tyok158x128 : AllK tyP 158 128 ty158x128 := AllK.node tyok286x256 (fun x h => by cases h; exact tyv158) AllK.nil
theorem tyok350x256 : AllK tyP 350 256 ty350x256 := AllK.node AllK.nil (fun x h => by cases h; exact tyv350) AllK.nil
theorem tyok222x128 : AllK tyP 222 128 ty222x128 := AllK.node tyok350x256 (fun _ h => nomatch h) AllK.nil
theorem tyok94x64 : AllK tyP 94 64 ty94x64 := AllK.node tyok158x128 (fun x h => by cases h; exact tyv94) tyok222x128
theorem tyok318x256 : AllK tyP 318 256 ty318x256 := AllK.node AllK.nil (fun x h => by cases h; exact tyv318) AllK.nil
theorem tyok190x128 : AllK tyP 190 128 ty190x128 := AllK.node tyok318x256 (fun x h => by cases h; exact tyv190) AllK.nil
theorem tyok382x256 : AllK tyP 382 256 ty382x256 := AllK.node AllK.nil (fun x h => by cases h; exact tyv382) AllK.nil
theorem tyok254x128 : AllK tyP 254 128 ty254x128 := AllK.node tyok382x256 (fun x h => by cases h; exact tyv254) AllK.nil
theorem tyok126x64 : AllK tyP 126 64 ty126x64 := AllK.node tyok190x128 (fun x h => by cases h; exact tyv126) tyok254x128
theorem tyok62x32 : AllK tyP 62 32 ty62x32 := AllK.node tyok94x64 (fun _ h => nomatch h) tyok126x64
theorem tyok30x16 : AllK tyP 30 16 ty30x16 := AllK.node tyok46x32 (fun x h => by cases h; exact tyv30) tyok62x32
theorem tyok14x8 : AllK tyP 14 8 ty14x8 := AllK.node tyok22x16 (fun x h => by cases h; exact tyv14) tyok30x16
theorem tyok6x4 : AllK tyP 6 4 ty6x4 := AllK.node tyok10x8 (fun x h => by cases h; exact tyv6) tyok14x8
theorem tyok2x2 : AllK tyP 2 2 ty2x2 := AllK.node tyok4x4 (fun x h => by cases h; exact tyv2) tyok6x4
theorem tyok0x1 : AllK tyP 0 1 ty0x1 := AllK.node tyok1x2 (fun _ h => nomatch h) tyok2x2
theorem fuok255x256 : AllK fuP 255 256 fu255x256 := AllK.node AllK.nil (fun _ h => nomatch h) AllK.nil
theorem fuok127x128 : AllK fuP 127 128 fu127x128 := AllK.node fuok255x256 (fun x h => by cases h; exact ⟨Tryz.func127, ne_of_beq (by kernel_rfl), fun c h => by cases h; kernel_rfl⟩) AllK.nil
theorem fuok191x128 : AllK fuP 191 128 fu191x128 := AllK.node AllK.nil (fun x h => by cases h; exact ⟨Tryz.func191, ne_of_beq (by kernel_rfl), fun c h => by cases h; kernel_rfl⟩) AllK.nil
theorem fuok63x64 : AllK fuP 63 64 fu63x64 := AllK.node fuok127x128 (fun x h => by cases h; exact ⟨Tryz.func63, ne_of_beq (by kernel_rfl), fun c h => by cases h; kernel_rfl⟩) fuok191x128
theorem fuok287x256 : AllK fuP 287 256 fu287x256 := AllK.node AllK.nil (fun _ h => nomatch h) AllK.nil
theorem fuok159x128 : AllK fuP 159 128 fu159x128 := AllK.node fuok287x256 (fun x h => by cases h; exact ⟨Tryz.func159, ne_of_beq (by kernel_rfl), fun c h => by cases h; kernel_rfl⟩) AllK.nil
theorem fuok223x128 : AllK fuP 223 128 fu223x128 := AllK.node AllK.nil (fun x h => by cases h; exact ⟨Tryz.func223, ne_of_beq (by kernel_rfl), fun c h => by cases h; kernel_rfl⟩) AllK.nil
theorem fuok95x64 : AllK fuP 95 64 fu95x64 := AllK.node fuok159x128 (fun _ h => nomatch h) fuok223x128
theorem fuok31x32 : AllK fuP 31 32 fu31x32 := AllK.node fuok63x64 (fun x h => by cases h; exact ⟨Tryz.func31, ne_of_beq (by kernel_rfl), fun c h => by cases h; kernel_rfl⟩) fuok95x64
theorem fuok271x256 : AllK fuP 271 256 fu271x256 := AllK.node AllK.nil (fun x h => by cases h; exact ⟨Tryz.func271, ne_of_beq (by kernel_rfl), fun c h => by cases h; kernel_rfl⟩) AllK.nil
theorem fuok143x128 : AllK fuP 143 128 fu143x128 := AllK.node fuok271x256 (fun x h => by cases h; exact ⟨Tryz.func143, ne_of_beq (by kernel_rfl), fun c h => by cases h; kernel_rfl⟩) AllK.nil
theorem fuok207x128 : AllK fuP 207 128 fu207x128 := AllK.node AllK.nil (fun _ h => nomatch h) AllK.nil
theorem fuok79x64 : AllK fuP 79 64 fu79x64 := AllK.node fuok143x128 (fun _ h => nomatch h) fuok207x128
theorem fuok303x256 : AllK fuP 303 256 fu303x256 := AllK.node AllK.nil (fun _ h => nomatch h) AllK.nil
theorem fuok175x128 : AllK fuP 175 128 fu175x128 := AllK.node fuok303x256 (fun x h => by cases h; exact ⟨Tryz.func175, ne_of_beq (by kernel_rfl), fun c h => by cases h; kernel_rfl⟩) AllK.nil
theorem fuok239x128 : AllK fuP 239 128 fu239x128 := AllK.node AllK.nil (fun x h => by cases h; exact ⟨Tryz.func239, ne_of_beq (by kernel_rfl), fun c h => by cases h; kernel_rfl⟩) AllK.nil
theorem fuok111x64 : AllK fuP 111 64 fu111x64 := AllK.node fuok175x128 (fun x h => by cases h; exact ⟨Tryz.func111, ne_of_beq (by kernel_rfl), fun c h => by cases h; kernel_rfl⟩) fuok239x128
theorem fuok47x32 : AllK fuP 47 32 fu47x32 := AllK.node fuok79x64 (fun x h => by cases h; exact ⟨Tryz.func47, ne_of_beq (by kernel_rfl), fun c h => by cases h; kernel_rfl⟩) fuok111x64
theorem fuok15x16 : AllK fuP 15 16 fu15x16 := AllK.node fuok31x32 (fun x h => by cases h; exact ⟨Tryz.func15, ne_of_beq (by kernel_rfl), fun c h => by cases h; kernel_rfl⟩) fuok47x32
theorem fuok263x256 : AllK fuP 263 256 fu263x256 := AllK.node AllK.nil (fun x h => by cases h; exact ⟨Tryz.func263, ne_of_beq (by kernel_rfl), fun c h => by cases h; kernel_rfl⟩) AllK.nil
theorem fuok135x128 : AllK fuP 135 128 fu135x128 := AllK.node fuok263x256 (fun _ h => nomatch h) AllK.nil
theorem fuok199x128 : AllK fuP 199 128 fu199x128 := AllK.node AllK.nil (fun x h => by cases h; exact ⟨Tryz.func199, ne_of_beq (by kernel_rfl), fun c h => by cases h; kernel_rfl⟩) AllK.nil
theorem fuok71x64 : AllK fuP 71 64 fu71x64 := AllK.node fuok135x128 (fun x h => by cases h; exact ⟨Tryz.func71, ne_of_beq (by kernel_rfl), fun c h => by cases h; kernel_rfl⟩) fuok199x128
theorem fuok295x256 : AllK fuP 295 256 fu295x256 := AllK.node AllK.nil (fun _ h => nomatch h) AllK.nil
theorem fuok167x128 : AllK fuP 167 128 fu167x128 := AllK.node fuok295x256 (fun _ h => nomatch h) AllK.nil
theorem fuok231x128 : AllK fuP 231 128 fu231x128 := AllK.node AllK.nil (fun x h => by cases h; exact ⟨Tryz.func231, ne_of_beq (by kernel_rfl), fun c h => by cases h; kernel_rfl⟩) AllK.nil
theorem fuok103x64 : AllK fuP 103 64 fu103x64 := AllK.node fuok167x128 (fun _ h => nomatch h) fuok231x128
theorem fuok39x32 : AllK fuP 39 32 fu39x32 := AllK.node fuok71x64 (fun x h => by cases h; exact ⟨Tryz.func39, ne_of_beq (by kernel_rfl), fun c h => by cases h; kernel_rfl⟩) fuok103x64
theorem fuok279x256 : AllK fuP 279 256 fu279x256 := AllK.node AllK.nil (fun _ h => nomatch h) AllK.nil
theorem fuok151x128 : AllK fuP 151 128 fu151x128 := AllK.node fuok279x256 (fun _ h => nomatch h) AllK.nil
theorem fuok215x128 : AllK fuP 215 128 fu215x128 := AllK.node AllK.nil (fun _ h => nomatch h) AllK.nil
theorem fuok87x64 : AllK fuP 87 64 fu87x64 := AllK.node fuok151x128 (fun x h => by cases h; exact ⟨Tryz.func87, ne_of_beq (by kernel_rfl), fun c h => by cases h; kernel_rfl⟩) fuok215x128
theorem fuok183x128 : AllK fuP 183 128 fu183x128 := AllK.node AllK.nil (fun _ h => nomatch h) AllK.nil
theorem fuok247x128 : AllK fuP 247 128 fu247x128 := AllK.node AllK.nil (fun _ h => nomatch h) AllK.nil
theorem fuok119x64 : AllK fuP 119 64 fu119x64 := AllK.node fuok183x128 (fun x h => by cases h; exact ⟨Tryz.func119, ne_of_beq (by kernel_rfl), fun c h => by cases h; kernel_rfl⟩) fuok247x128
theorem fuok55x32 : AllK fuP 55 32 fu55x32 := AllK.node fuok87x64 (fun x h => by cases h; exact ⟨Tryz.func55, ne_of_beq (by kernel_rfl), fun c h => by cases h; kernel_rfl⟩) fuok119x64
theorem fuok23x16 : AllK fuP 23 16 fu23x16 := AllK.node fuok39x32 (fun x h => by cases h; exact ⟨Tryz.func23, ne_of_beq (by kernel_rfl), fun c h => by cases h; kernel_rfl⟩) fuok55x32
theorem fuok7x8 : AllK fuP 7 8 fu7x8 := AllK.node fuok15x16 (fun x h => by cases h; exact ⟨Tryz.func7, ne_of_beq (by kernel_rfl), fun c h => by cases h; kernel_rfl⟩) fuok23x16
theorem fuok259x256 : AllK fuP 259 256 fu259x256 := AllK.node AllK.nil (fun x h => by cases h; exact ⟨Tryz.func259, ne_of_beq (by kernel_rfl), fun c h => by cases h; kernel_rfl⟩) AllK.nil
theorem fuok131x128 : AllK fuP 131 128 fu131x128 := AllK.node fuok259x256 (fun x h => by cases h; exact ⟨Tryz.func131, ne_of_beq (by kernel_rfl), fun c h => by cases h; kernel_rfl⟩) AllK.nil
theorem fuok195x128 : AllK fuP 195 128 fu195x128 := AllK.node AllK.nil (fun x h => by cases h; exact ⟨Tryz.func195, ne_of_beq (by kernel_rfl), fun c h => by cases h; kernel_rfl⟩) AllK.nil
theorem fuok67x64 : AllK fuP 67 64 fu67x64 := AllK.node fuok131x128 (fun x h => by cases h; exact ⟨Tryz.func67, ne_of_beq (by kernel_rfl), fun c h => by cases h; kernel_rfl⟩) fuok195x128
theorem fuok291x256 : AllK fuP 291 256 fu291x256 := AllK.node AllK.nil (fun _ h => nomatch h) AllK.nil
theorem fuok163x128 : AllK fuP 163 128 fu163x128 := AllK.node fuok291x256 (fun _ h => nomatch h) AllK.nil
theorem fuok227x128 : AllK fuP 227 128 fu227x128 := AllK.node AllK.nil (fun x h => by cases h; exact ⟨Tryz.func227, ne_of_beq (by kernel_rfl), fun c h => by cases h; kernel_rfl⟩) AllK.nil
theorem fuok99x64 : AllK fuP 99 64 fu99x64 := AllK.node fuok163x128 (fun x h => by cases h; exact ⟨Tryz.func99, ne_of_beq (by kernel_rfl), fun c h => by cases h; kernel_rfl⟩) fuok227x128
theorem fuok35x32 : AllK fuP 35 32 fu35x32 := AllK.node fuok67x64 (fun x h => by cases h; exact ⟨Tryz.func35, ne_of_beq (by kernel_rfl), fun c h => by cases h; kernel_rfl⟩) fuok99x64
theorem fuok275x256 : AllK fuP 275 256 fu275x256 := AllK.node AllK.nil (fun _ h => nomatch h) AllK.nil
theorem fuok147x128 : AllK fuP 147 128 fu147x128 := AllK.node fuok275x256 (fun x h => by cases h; exact ⟨Tryz.func147, ne_of_beq (by kernel_rfl), fun c h => by cases h; kernel_rfl⟩) AllK.nil
theorem fuok211x128 : AllK fuP 211 128 fu211x128 := AllK.node AllK.nil (fun _ h => nomatch h) AllK.nil
theorem fuok83x64 : AllK fuP 83 64 fu83x64 := AllK.node fuok147x128 (fun _ h => nomatch h) fuok211x128
theorem fuok307x256 : AllK fuP 307 256 fu307x256 := AllK.node AllK.nil (fun _ h => nomatch h) AllK.nil
theorem fuok179x128 : AllK fuP 179 128 fu179x128 := AllK.node fuok307x256 (fun x h => by cases h; exact ⟨Tryz.func179, ne_of_beq (by kernel_rfl), fun c h => by cases h; kernel_rfl⟩) AllK.nil
theorem fuok243x128 : AllK fuP 243 128 fu243x128 := AllK.node AllK.nil (fun _ h => nomatch h) AllK.nil
theorem fuok115x64 : AllK fuP 115 64 fu115x64 := AllK.node fuok179x128 (fun x h => by cases h; exact ⟨Tryz.func115, ne_of_beq (by kernel_rfl), fun c h => by cases h; kernel_rfl⟩) fuok243x128
theorem fuok51x32 : AllK fuP 51 32 fu51x32 := AllK.node fuok83x64 (fun x h => by cases h; exact ⟨Tryz.func51, ne_of_beq (by kernel_rfl), fun c h => by cases h; kernel_rfl⟩) fuok115x64
theorem fuok19x16 : AllK fuP 19 16 fu19x16 := AllK.node fuok35x32 (fun x h => by cases h; exact ⟨Tryz.func19, ne_of_beq (by kernel_rfl), fun c h => by cases h; kernel_rfl⟩) fuok51x32
theorem fuok267x256 : AllK fuP 267 256 fu267x256 := AllK.node AllK.nil (fun _ h => nomatch h) AllK.nil
theorem fuok139x128 : AllK fuP 139 128 fu139x128 := AllK.node fuok267x256 (fun _ h => nomatch h) AllK.nil
theorem fuok203x128 : AllK fuP 203 128 fu203x128 := AllK.node AllK.nil (fun _ h => nomatch h) AllK.nil
theorem fuok75x64 : AllK fuP 75 64 fu75x64 := AllK.node fuok139x128 (fun x h => by cases h; exact ⟨Tryz.func75, ne_of_beq (by kernel_rfl), fun c h => by cases h; kernel_rfl⟩) fuok203x128
theorem fuok299x256 : AllK fuP 299 256 fu299x256 := AllK.node AllK.nil (fun _ h => nomatch h) AllK.nil
theorem fuok171x128 : AllK fuP 171 128 fu171x128 := AllK.node fuok299x256 (fun x h => by cases h; exact ⟨Tryz.func171, ne_of_beq (by kernel_rfl), fun c h => by cases h; kernel_rfl⟩) AllK.nil
theorem fuok235x128 : AllK fuP 235 128 fu235x128 := AllK.node AllK.nil (fun _ h => nomatch h) AllK.nil
theorem fuok107x64 : AllK fuP 107 64 fu107x64 := AllK.node fuok171x128 (fun x h => by cases h; exact ⟨Tryz.func107, ne_of_beq (by kernel_rfl), fun c h => by cases h; kernel_rfl⟩) fuok235x128
theorem fuok43x32 : AllK fuP 43 32 fu43x32 := AllK.node fuok75x64 (fun _ h => nomatch h) fuok107x64
theorem fuok283x256 : AllK fuP 283 256 fu283x256 := AllK.node AllK.nil (fun _ h => nomatch h) AllK.nil
theorem fuok155x128 : AllK fuP 155 128 fu155x128 := AllK.node fuok283x256 (fun _ h => nomatch h) AllK.nil
theorem fuok219x128 : AllK fuP 219 128 fu219x128 := AllK.node AllK.nil (fun x h => by cases h; exact ⟨Tryz.func219, ne_of_beq (by kernel_rfl), fun c h => by cases h; kernel_rfl⟩) AllK.nil
theorem fuok91x64 : AllK fuP 91 64 fu91x64 := AllK.node fuok155x128 (fun x h => by cases h; exact ⟨Tryz.func91, ne_of_beq (by kernel_rfl), fun c h => by cases h; kernel_rfl⟩) fuok219x128
theorem fuok187x128 : AllK fuP 187 128 fu187x128 := AllK.node AllK.nil (fun x h => by cases h; exact ⟨Tryz.func187, ne_of_beq (by kernel_rfl), fun c h => by cases h; kernel_rfl⟩) AllK.nil
theorem fuok251x128 : AllK fuP 251 128 fu251x128 := AllK.node AllK.nil (fun x h => by cases h; exact ⟨Tryz.func251, ne_of_beq (by kernel_rfl), fun c h => by cases h; kernel_rfl⟩) AllK.nil
theorem fuok123x64 : AllK fuP 123 64 fu123x64 := AllK.node fuok187x128 (fun _ h => nomatch h) fuok251x128
theorem fuok59x32 : AllK fuP 59 32 fu59x32 := AllK.node fuok91x64 (fun x h => by cases h; exact ⟨Tryz.func59, ne_of_beq (by kernel_rfl), fun c h => by cases h; kernel_rfl⟩) fuok123x64
theorem fuok27x16 : AllK fuP 27 16 fu27x16 := AllK.node fuok43x32 (fun x h => by cases h; exact ⟨Tryz.func27, ne_of_beq (by kernel_rfl), fun c h => by cases h; kernel_rfl⟩) fuok59x32
theorem fuok11x8 : AllK fuP 11 8 fu11x8 := AllK.node fuok19x16 (fun x h => by cases h; exact ⟨Tryz.func11, ne_of_beq (by kernel_rfl), fun c h => by cases h; kernel_rfl⟩) fuok27x16
theorem fuok3x4 : AllK fuP 3 4 fu3x4 := AllK.node fuok7x8 (fun x h => by cases h; exact ⟨Tryz.func3, ne_of_beq (by kernel_rfl), fun c h => by cases h; kernel_rfl⟩) fuok11x8
theorem fuok257x256 : AllK fuP 257 256 fu257x256 := AllK.node AllK.nil (fun x h => by cases h; exact ⟨Tryz.func257, ne_of_beq (by kernel_rfl), fun c h => by cases h; kernel_rfl⟩) AllK.nil
theorem fuok129x128 : AllK fuP 129 128 fu129x128 := AllK.node fuok257x256 (fun x h => by cases h; exact ⟨Tryz.func129, ne_of_beq (by kernel_rfl), fun c h => by cases h; kernel_rfl⟩) AllK.nil
theorem fuok193x128 : AllK fuP 193 128 fu193x128 := AllK.node AllK.nil (fun x h => by cases h; exact ⟨Tryz.func193, ne_of_beq (by kernel_rfl), fun c h => by cases h; kernel_rfl⟩) AllK.nil
theorem fuok65x64 : AllK fuP 65 64 fu65x64 := AllK.node fuok129x128 (fun x h => by cases h; exact ⟨Tryz.func65, ne_of_beq (by kernel_rfl), fun c h => by cases h; kernel_rfl⟩) fuok193x128
theorem fuok289x256 : AllK fuP 289 256 fu289x256 := AllK.node AllK.nil (fun _ h => nomatch h) AllK.nil
theorem fuok161x128 : AllK fuP 161 128 fu161x128 := AllK.node fuok289x256 (fun _ h => nomatch h) AllK.nil
theorem fuok225x128 : AllK fuP 225 128 fu225x128 := AllK.node AllK.nil (fun x h => by cases h; exact ⟨Tryz.func225, ne_of_beq (by kernel_rfl), fun c h => by cases h; kernel_rfl⟩) AllK.nil
theorem fuok97x64 : AllK fuP 97 64 fu97x64 := AllK.node fuok161x128 (fun x h => by cases h; exact ⟨Tryz.func97, ne_of_beq (by kernel_rfl), fun c h => by cases h; kernel_rfl⟩) fuok225x128
theorem fuok33x32 : AllK fuP 33 32 fu33x32 := AllK.node fuok65x64 (fun x h => by cases h; exact ⟨Tryz.func33, ne_of_beq (by kernel_rfl), fun c h => by cases h; kernel_rfl⟩) fuok97x64
theorem fuok273x256 : AllK fuP 273 256 fu273x256 := AllK.node AllK.nil (fun _ h => nomatch h) AllK.nil
theorem fuok145x128 : AllK fuP 145 128 fu145x128 := AllK.node fuok273x256 (fun x h => by cases h; exact ⟨Tryz.func145, ne_of_beq (by kernel_rfl), fun c h => by cases h; kernel_rfl⟩) AllK.nil
theorem fuok209x128 : AllK fuP 209 128 fu209x128 := AllK.node AllK.nil (fun _ h => nomatch h) AllK.nil
theorem fuok81x64 : AllK fuP 81 64 fu81x64 := AllK.node fuok145x128 (fun x h => by cases h; exact ⟨Tryz.func81, ne_of_beq (by kernel_rfl), fun c h => by cases h; kernel_rfl⟩) fuok209x128
theorem fuok305x256 : AllK fuP 305 256 fu305x256 := AllK.node AllK.nil (fun _ h => nomatch h) AllK.nil
theorem fuok177x128 : AllK fuP 177 128 fu177x128 := AllK.node fuok305x256 (fun _ h => nomatch h) AllK.nil
theorem fuok241x128 : AllK fuP 241 128 fu241x128 := AllK.node AllK.nil (fun x h => by cases h; exact ⟨Tryz.func241, ne_of_beq (by kernel_rfl), fun c h => by cases h; kernel_rfl⟩) AllK.nil
theorem fuok113x64 : AllK fuP 113 64 fu113x64 := AllK.node fuok177x128 (fun x h => by cases h; exact ⟨Tryz.func113, ne_of_beq (by kernel_rfl), fun c h => by cases h; kernel_rfl⟩) fuok241x128
theorem fuok49x32 : AllK fuP 49 32 fu49x32 := AllK.node fuok81x64 (fun _ h => nomatch h) fuok113x64
theorem fuok17x16 : AllK fuP 17 16 fu17x16 := AllK.node fuok33x32 (fun _ h => nomatch h) fuok49x32
theorem fuok265x256 : AllK fuP 265 256 fu265x256 := AllK.node AllK.nil (fun _ h => nomatch h) AllK.nil
theorem fuok137x128 : AllK fuP 137 128 fu137x128 := AllK.node fuok265x256 (fun x h => by cases h; exact ⟨Tryz.func137, ne_of_beq (by kernel_rfl), fun c h => by cases h; kernel_rfl⟩) AllK.nil
theorem fuok201x128 : AllK fuP 201 128 fu201x128 := AllK.node AllK.nil (fun _ h => nomatch h) AllK.nil
theorem fuok73x64 : AllK fuP 73 64 fu73x64 := AllK.node fuok137x128 (fun x h => by cases h; exact ⟨Tryz.func73, ne_of_beq (by kernel_rfl), fun c h => by cases h; kernel_rfl⟩) fuok201x128
theorem fuok297x256 : AllK fuP 297 256 fu297x256 := AllK.node AllK.nil (fun _ h => nomatch h) AllK.nil
theorem fuok169x128 : AllK fuP 169 128 fu169x128 := AllK.node fuok297x256 (fun _ h => nomatch h) AllK.nil
theorem fuok233x128 : AllK fuP 233 128 fu233x128 := AllK.node AllK.nil (fun _ h => nomatch h) AllK.nil
theorem fuok105x64 : AllK fuP 105 64 fu105x64 := AllK.node fuok169x128 (fun _ h => nomatch h) fuok233x128
theorem fuok41x32 : AllK fuP 41 32 fu41x32 := AllK.node fuok73x64 (fun x h => by cases h; exact ⟨Tryz.func41, ne_of_beq (by kernel_rfl), fun c h => by cases h; kernel_rfl⟩) fuok105x64
theorem fuok281x256 : AllK fuP 281 256 fu281x256 := AllK.node AllK.nil (fun _ h => nomatch h) AllK.nil
theorem fuok153x128 : AllK fuP 153 128 fu153x128 := AllK.node fuok281x256 (fun _ h => nomatch h) AllK.nil
theorem fuok217x128 : AllK fuP 217 128 fu217x128 := AllK.node AllK.nil (fun _ h => nomatch h) AllK.nil
theorem fuok89x64 : AllK fuP 89 64 fu89x64 := AllK.node fuok153x128 (fun x h => by cases h; exact ⟨Tryz.func89, ne_of_beq (by kernel_rfl), fun c h => by cases h; kernel_rfl⟩) fuok217x128
theorem fuok185x128 : AllK fuP 185 128 fu185x128 := AllK.node AllK.nil (fun x h => by cases h; exact ⟨Tryz.func185, ne_of_beq (by kernel_rfl), fun c h => by cases h; kernel_rfl⟩) AllK.nil
theorem fuok249x128 : AllK fuP 249 128 fu249x128 := AllK.node AllK.nil (fun _ h => nomatch h) AllK.nil
theorem fuok121x64 : AllK fuP 121 64 fu121x64 := AllK.node fuok185x128 (fun x h => by cases h; exact ⟨Tryz.func121, ne_of_beq (by kernel_rfl), fun c h => by cases h; kernel_rfl⟩) fuok249x128
theorem fuok57x32 : AllK fuP 57 32 fu57x32 := AllK.node fuok89x64 (fun x h => by cases h; exact ⟨Tryz.func57, ne_of_beq (by kernel_rfl), fun c h => by cases h; kernel_rfl⟩) fuok121x64
theorem fuok25x16 : AllK fuP 25 16 fu25x16 := AllK.node fuok41x32 (fun x h => by cases h; exact ⟨Tryz.func25, ne_of_beq (by kernel_rfl), fun c h => by cases h; kernel_rfl⟩) fuok57x32
theorem fuok9x8 : AllK fuP 9 8 fu9x8 := AllK.node fuok17x16 (fun _ h => nomatch h) fuok25x16
theorem fuok261x256 : AllK fuP 261 256 fu261x256 := AllK.node AllK.nil (fun _ h => nomatch h) AllK.nil
theorem fuok133x128 : AllK fuP 133 128 fu133x128 := AllK.node fuok261x256 (fun _ h => nomatch h) AllK.nil
theorem fuok197x128 : AllK fuP 197 128 fu197x128 := AllK.node AllK.nil (fun x h => by cases h; exact ⟨Tryz.func197, ne_of_beq (by kernel_rfl), fun c h => by cases h; kernel_rfl⟩) AllK.nil
theorem fuok69x64 : AllK fuP 69 64 fu69x64 := AllK.node fuok133x128 (fun x h => by cases h; exact ⟨Tryz.func69, ne_of_beq (by kernel_rfl), fun c h => by cases h; kernel_rfl⟩) fuok197x128
theorem fuok293x256 : AllK fuP 293 256 fu293x256 := AllK.node AllK.nil (fun _ h => nomatch h) AllK.nil
theorem fuok165x128 : AllK fuP 165 128 fu165x128 := AllK.node fuok293x256 (fun _ h => nomatch h) AllK.nil
theorem fuok229x128 : AllK fuP 229 128 fu229x128 := AllK.node AllK.nil (fun x h => by cases h; exact ⟨Tryz.func229, ne_of_beq (by kernel_rfl), fun c h => by cases h; kernel_rfl⟩) AllK.nil
theorem fuok101x64 : AllK fuP 101 64 fu101x64 := AllK.node fuok165x128 (fun x h => by cases h; exact ⟨Tryz.func101, ne_of_beq (by kernel_rfl), fun c h => by cases h; kernel_rfl⟩) fuok229x128
theorem fuok37x32 : AllK fuP 37 32 fu37x32 := AllK.node fuok69x64 (fun x h => by cases h; exact ⟨Tryz.func37, ne_of_beq (by kernel_rfl), fun c h => by cases h; kernel_rfl⟩) fuok101x64
theorem fuok277x256 : AllK fuP 277 256 fu277x256 := AllK.node AllK.nil (fun _ h => nomatch h) AllK.nil
theorem fuok149x128 : AllK fuP 149 128 fu149x128 := AllK.node fuok277x256 (fun x h => by cases h; exact ⟨Tryz.func149, ne_of_beq (by kernel_rfl), fun c h => by cases h; kernel_rfl⟩) AllK.nil
theorem fuok213x128 : AllK fuP 213 128 fu213x128 := AllK.node AllK.nil (fun _ h => nomatch h) AllK.nil
theorem fuok85x64 : AllK fuP 85 64 fu85x64 := AllK.node fuok149x128 (fun x h => by cases h; exact ⟨Tryz.func85, ne_of_beq (by kernel_rfl), fun c h => by cases h; kernel_rfl⟩) fuok213x128
theorem fuok309x256 : AllK fuP 309 256 fu309x256 := AllK.node AllK.nil (fun _ h => nomatch h) AllK.nil
theorem fuok181x128 : AllK fuP 181 128 fu181x128 := AllK.node fuok309x256 (fun _ h => nomatch h) AllK.nil
theorem fuok245x128 : AllK fuP 245 128 fu245x128 := AllK.node AllK.nil (fun _ h => nomatch h) AllK.nil
theorem fuok117x64 : AllK fuP 117 64 fu117x64 := AllK.node fuok181x128 (fun x h => by cases h; exact ⟨Tryz.func117, ne_of_beq (by kernel_rfl), fun c h => by cases h; kernel_rfl⟩) fuok245x128
theorem fuok53x32 : AllK fuP 53 32 fu53x32 := AllK.node fuok85x64 (fun x h => by cases h; exact ⟨Tryz.func53, ne_of_beq (by kernel_rfl), fun c h => by cases h; kernel_rfl⟩) fuok117x64
theorem fuok21x16 : AllK fuP 21 16 fu21x16 := AllK.node fuok37x32 (fun x h => by cases h; exact ⟨Tryz.func21, ne_of_beq (by kernel_rfl), fun c h => by cases h; kernel_rfl⟩) fuok53x32
theorem fuok269x256 : AllK fuP 269 256 fu269x256 := AllK.node AllK.nil (fun _ h => nomatch h) AllK.nil
theorem fuok141x128 : AllK fuP 141 128 fu141x128 := AllK.node fuok269x256 (fun x h => by cases h; exact ⟨Tryz.func141, ne_of_beq (by kernel_rfl), fun c h => by cases h; kernel_rfl⟩) AllK.nil
theorem fuok205x128 : AllK fuP 205 128 fu205x128 := AllK.node AllK.nil (fun _ h => nomatch h) AllK.nil
theorem fuok77x64 : AllK fuP 77 64 fu77x64 := AllK.node fuok141x128 (fun x h => by cases h; exact ⟨Tryz.func77, ne_of_beq (by kernel_rfl), fun c h => by cases h; kernel_rfl⟩) fuok205x128
theorem fuok301x256 : AllK fuP 301 256 fu301x256 := AllK.node AllK.nil (fun _ h => nomatch h) AllK.nil
theorem fuok173x128 : AllK fuP 173 128 fu173x128 := AllK.node fuok301x256 (fun x h => by cases h; exact ⟨Tryz.func173, ne_of_beq (by kernel_rfl), fun c h => by cases h; kernel_rfl⟩) AllK.nil
theorem fuok237x128 : AllK fuP 237 128 fu237x128 := AllK.node AllK.nil (fun x h => by cases h; exact ⟨Tryz.func237, ne_of_beq (by kernel_rfl), fun c h => by cases h; kernel_rfl⟩) AllK.nil
theorem fuok109x64 : AllK fuP 109 64 fu109x64 := AllK.node fuok173x128 (fun _ h => nomatch h) fuok237x128
theorem fuok45x32 : AllK fuP 45 32 fu45x32 := AllK.node fuok77x64 (fun x h => by cases h; exact ⟨Tryz.func45, ne_of_beq (by kernel_rfl), fun c h => by cases h; kernel_rfl⟩) fuok109x64
theorem fuok285x256 : AllK fuP 285 256 fu285x256 := AllK.node AllK.nil (fun _ h => nomatch h) AllK.nil
theorem fuok157x128 : AllK fuP 157 128 fu157x128 := AllK.node fuok285x256 (fun _ h => nomatch h) AllK.nil
theorem fuok221x128 : AllK fuP 221 128 fu221x128 := AllK.node AllK.nil (fun x h => by cases h; exact ⟨Tryz.func221, ne_of_beq (by kernel_rfl), fun c h => by cases h; kernel_rfl⟩) AllK.nil
theorem fuok93x64 : AllK fuP 93 64 fu93x64 := AllK.node fuok157x128 (fun _ h => nomatch h) fuok221x128
theorem fuok189x128 : AllK fuP 189 128 fu189x128 := AllK.node AllK.nil (fun _ h => nomatch h) AllK.nil
theorem fuok253x128 : AllK fuP 253 128 fu253x128 := AllK.node AllK.nil (fun _ h => nomatch h) AllK.nil
theorem fuok125x64 : AllK fuP 125 64 fu125x64 := AllK.node fuok189x128 (fun _ h => nomatch h) fuok253x128
theorem fuok61x32 : AllK fuP 61 32 fu61x32 := AllK.node fuok93x64 (fun x h => by cases h; exact ⟨Tryz.func61, ne_of_beq (by kernel_rfl), fun c h => by cases h; kernel_rfl⟩) fuok125x64
theorem fuok29x16 : AllK fuP 29 16 fu29x16 := AllK.node fuok45x32 (fun x h => by cases h; exact ⟨Tryz.func29, ne_of_beq (by kernel_rfl), fun c h => by cases h; kernel_rfl⟩) fuok61x32
theorem fuok13x8 : AllK fuP 13 8 fu13x8 := AllK.node fuok21x16 (fun x h => by cases h; exact ⟨Tryz.func13, ne_of_beq (by kernel_rfl), fun c h => by cases h; kernel_rfl⟩) fuok29x16
theorem fuok5x4 : AllK fuP 5 4 fu5x4 := AllK.node fuok9x8 (fun x h => by cases h; exact ⟨Tryz.func5, ne_of_beq (by kernel_rfl), fun c h => by cases h; kernel_rfl⟩) fuok13x8
theorem fuok1x2 : AllK fuP 1 2 fu1x2 := AllK.node fuok3x4 (fun _ h => nomatch h) fuok5x4
theorem fuok256x256 : AllK fuP 256 256 fu256x256 := AllK.node AllK.nil (fun x h => by cases h; exact ⟨Tryz.func256, ne_of_beq (by kernel_rfl), fun c h => by cases h; kernel_rfl⟩) AllK.nil
theorem fuok128x128 : AllK fuP 128 128 fu128x128 := AllK.node fuok256x256 (fun x h => by cases h; exact ⟨Tryz.func128, ne_of_beq (by kernel_rfl), fun c h => by cases h; kernel_rfl⟩) AllK.nil
theorem fuok192x128 : AllK fuP 192 128 fu192x128 := AllK.node AllK.nil (fun x h => by cases h; exact ⟨Tryz.func192, ne_of_beq (by kernel_rfl), fun c h => by cases h; kernel_rfl⟩) AllK.nil
theorem fuok64x64 : AllK fuP 64 64 fu64x64 := AllK.node fuok128x128 (fun x h => by cases h; exact ⟨Tryz.func64, ne_of_beq (by kernel_rfl), fun c h => by cases h; kernel_rfl⟩) fuok192x128
theorem fuok288x256 : AllK fuP 288 256 fu288x256 := AllK.node AllK.nil (fun _ h => nomatch h) AllK.nil
theorem fuok160x128 : AllK fuP 160 128 fu160x128 := AllK.node fuok288x256 (fun _ h => nomatch h) AllK.nil
theorem fuok224x128 : AllK fuP 224 128 fu224x128 := AllK.node AllK.nil (fun x h => by cases h; exact ⟨Tryz.func224, ne_of_beq (by kernel_rfl), fun c h => by cases h; kernel_rfl⟩) AllK.nil
theorem fuok96x64 : AllK fuP 96 64 fu96x64 := AllK.node fuok160x128 (fun _ h => nomatch h) fuok224x128
theorem fuok32x32 : AllK fuP 32 32 fu32x32 := AllK.node fuok64x64 (fun x h => by cases h; exact ⟨Tryz.func32, ne_of_beq (by kernel_rfl), fun c h => by cases h; kernel_rfl⟩) fuok96x64
theorem fuok272x256 : AllK fuP 272 256 fu272x256 := AllK.node AllK.nil (fun _ h => nomatch h) AllK.nil
theorem fuok144x128 : AllK fuP 144 128 fu144x128 := AllK.node fuok272x256 (fun x h => by cases h; exact ⟨Tryz.func144, ne_of_beq (by kernel_rfl), fun c h => by cases h; kernel_rfl⟩) AllK.nil
theorem fuok208x128 : AllK fuP 208 128 fu208x128 := AllK.node AllK.nil (fun _ h => nomatch h) AllK.nil
theorem fuok80x64 : AllK fuP 80 64 fu80x64 := AllK.node fuok144x128 (fun x h => by cases h; exact ⟨Tryz.func80, ne_of_beq (by kernel_rfl), fun c h => by cases h; kernel_rfl⟩) fuok208x128
theorem fuok304x256 : AllK fuP 304 256 fu304x256 := AllK.node AllK.nil (fun _ h => nomatch h) AllK.nil
theorem fuok176x128 : AllK fuP 176 128 fu176x128 := AllK.node fuok304x256 (fun _ h => nomatch h) AllK.nil
theorem fuok240x128 : AllK fuP 240 128 fu240x128 := AllK.node AllK.nil (fun x h => by cases h; exact ⟨Tryz.func240, ne_of_beq (by kernel_rfl), fun c h => by cases h; kernel_rfl⟩) AllK.nil
theorem fuok112x64 : AllK fuP 112 64 fu112x64 := AllK.node fuok176x128 (fun x h => by cases h; exact ⟨Tryz.func112, ne_of_beq (by kernel_rfl), fun c h => by cases h; kernel_rfl⟩) fuok240x128
theorem fuok48x32 : AllK fuP 48 32 fu48x32 := AllK.node fuok80x64 (fun _ h => nomatch h) fuok112x64
theorem fuok16x16 : AllK fuP 16 16 fu16x16 := AllK.node fuok32x32 (fun x h => by cases h; exact ⟨Tryz.func16, ne_of_beq (by kernel_rfl), fun c h => by cases h; kernel_rfl⟩) fuok48x32
theorem fuok264x256 : AllK fuP 264 256 fu264x256 := AllK.node AllK.nil (fun _ h => nomatch h) AllK.nil
theorem fuok136x128 : AllK fuP 136 128 fu136x128 := AllK.node fuok264x256 (fun x h => by cases h; exact ⟨Tryz.func136, ne_of_beq (by kernel_rfl), fun c h => by cases h; kernel_rfl⟩) AllK.nil
theorem fuok200x128 : AllK fuP 200 128 fu200x128 := AllK.node AllK.nil (fun x h => by cases h; exact ⟨Tryz.func200, ne_of_beq (by kernel_rfl), fun c h => by cases h; kernel_rfl⟩) AllK.nil
theorem fuok72x64 : AllK fuP 72 64 fu72x64 := AllK.node fuok136x128 (fun _ h => nomatch h) fuok200x128
theorem fuok296x256 : AllK fuP 296 256 fu296x256 := AllK.node AllK.nil (fun _ h => nomatch h) AllK.nil
theorem fuok168x128 : AllK fuP 168 128 fu168x128 := AllK.node fuok296x256 (fun _ h => nomatch h) AllK.nil
theorem fuok232x128 : AllK fuP 232 128 fu232x128 := AllK.node AllK.nil (fun _ h => nomatch h) AllK.nil
theorem fuok104x64 : AllK fuP 104 64 fu104x64 := AllK.node fuok168x128 (fun _ h => nomatch h) fuok232x128
theorem fuok40x32 : AllK fuP 40 32 fu40x32 := AllK.node fuok72x64 (fun x h => by cases h; exact ⟨Tryz.func40, ne_of_beq (by kernel_rfl), fun c h => by cases h; kernel_rfl⟩) fuok104x64
theorem fuok280x256 : AllK fuP 280 256 fu280x256 := AllK.node AllK.nil (fun _ h => nomatch h) AllK.nil
theorem fuok152x128 : AllK fuP 152 128 fu152x128 := AllK.node fuok280x256 (fun _ h => nomatch h) AllK.nil
theorem fuok216x128 : AllK fuP 216 128 fu216x128 := AllK.node AllK.nil (fun _ h => nomatch h) AllK.nil
theorem fuok88x64 : AllK fuP 88 64 fu88x64 := AllK.node fuok152x128 (fun x h => by cases h; exact ⟨Tryz.func88, ne_of_beq (by kernel_rfl), fun c h => by cases h; kernel_rfl⟩) fuok216x128
theorem fuok184x128 : AllK fuP 184 128 fu184x128 := AllK.node AllK.nil (fun _ h => nomatch h) AllK.nil
theorem fuok248x128 : AllK fuP 248 128 fu248x128 := AllK.node AllK.nil (fun _ h => nomatch h) AllK.nil
theorem fuok120x64 : AllK fuP 120 64 fu120x64 := AllK.node fuok184x128 (fun x h => by cases h; exact ⟨Tryz.func120, ne_of_beq (by kernel_rfl), fun c h => by cases h; kernel_rfl⟩) fuok248x128
theorem fuok56x32 : AllK fuP 56 32 fu56x32 := AllK.node fuok88x64 (fun x h => by cases h; exact ⟨Tryz.func56, ne_of_beq (by kernel_rfl), fun c h => by cases h; kernel_rfl⟩) fuok120x64
theorem fuok24x16 : AllK fuP 24 16 fu24x16 := AllK.node fuok40x32 (fun x h => by cases h; exact ⟨Tryz.func24, ne_of_beq (by kernel_rfl), fun c h => by cases h; kernel_rfl⟩) fuok56x32
theorem fuok8x8 : AllK fuP 8 8 fu8x8 := AllK.node fuok16x16 (fun x h => by cases h; exact ⟨Tryz.func8, ne_of_beq (by kernel_rfl), fun c h => by cases h; kernel_rfl⟩) fuok24x16
theorem fuok260x256 : AllK fuP 260 256 fu260x256 := AllK.node AllK.nil (fun _ h => nomatch h) AllK.nil
theorem fuok132x128 : AllK fuP 132 128 fu132x128 := AllK.node fuok260x256 (fun _ h => nomatch h) AllK.nil
theorem fuok196x128 : AllK fuP 196 128 fu196x128 := AllK.node AllK.nil (fun _ h => nomatch h) AllK.nil
theorem fuok68x64 : AllK fuP 68 64 fu68x64 := AllK.node fuok132x128 (fun x h => by cases h; exact ⟨Tryz.func68, ne_of_beq (by kernel_rfl), fun c h => by cases h; kernel_rfl⟩) fuok196x128
theorem fuok292x256 : AllK fuP 292 256 fu292x256 := AllK.node AllK.nil (fun _ h => nomatch h) AllK.nil
theorem fuok164x128 : AllK fuP 164 128 fu164x128 := AllK.node fuok292x256 (fun _ h => nomatch h) AllK.nil
theorem fuok228x128 : AllK fuP 228 128 fu228x128 := AllK.node AllK.nil (fun x h => by cases h; exact ⟨Tryz.func228, ne_of_beq (by kernel_rfl), fun c h => by cases h; kernel_rfl⟩) AllK.nil
theorem fuok100x64 : AllK fuP 100 64 fu100x64 := AllK.node fuok164x128 (fun x h => by cases h; exact ⟨Tryz.func100, ne_of_beq (by kernel_rfl), fun c h => by cases h; kernel_rfl⟩) fuok228x128
theorem fuok36x32 : AllK fuP 36 32 fu36x32 := AllK.node fuok68x64 (fun x h => by cases h; exact ⟨Tryz.func36, ne_of_beq (by kernel_rfl), fun c h => by cases h; kernel_rfl⟩) fuok100x64
theorem fuok276x256 : AllK fuP 276 256 fu276x256 := AllK.node AllK.nil (fun _ h => nomatch h) AllK.nil
theorem fuok148x128 : AllK fuP 148 128 fu148x128 := AllK.node fuok276x256 (fun x h => by cases h; exact ⟨Tryz.func148, ne_of_beq (by kernel_rfl), fun c h => by cases h; kernel_rfl⟩) AllK.nil
theorem fuok212x128 : AllK fuP 212 128 fu212x128 := AllK.node AllK.nil (fun x h => by cases h; exact ⟨Tryz.func212, ne_of_beq (by kernel_rfl), fun c h => by cases h; kernel_rfl⟩) AllK.nil
theorem fuok84x64 : AllK fuP 84 64 fu84x64 := AllK.node fuok148x128 (fun _ h => nomatch h) fuok212x128
theorem fuok308x256 : AllK fuP 308 256 fu308x256 := AllK.node AllK.nil (fun _ h => nomatch h) AllK.nil
theorem fuok180x128 : AllK fuP 180 128 fu180x128 := AllK.node fuok308x256 (fun _ h => nomatch h) AllK.nil
theorem fuok244x128 : AllK fuP 244 128 fu244x128 := AllK.node AllK.nil (fun _ h => nomatch h) AllK.nil
theorem fuok116x64 : AllK fuP 116 64 fu116x64 := AllK.node fuok180x128 (fun x h => by cases h; exact ⟨Tryz.func116, ne_of_beq (by kernel_rfl), fun c h => by cases h; kernel_rfl⟩) fuok244x128
theorem fuok52x32 : AllK fuP 52 32 fu52x32 := AllK.node fuok84x64 (fun x h => by cases h; exact ⟨Tryz.func52, ne_of_beq (by kernel_rfl), fun c h => by cases h; kernel_rfl⟩) fuok116x64
theorem fuok20x16 : AllK fuP 20 16 fu20x16 := AllK.node fuok36x32 (fun x h => by cases h; exact ⟨Tryz.func20, ne_of_beq (by kernel_rfl), fun c h => by cases h; kernel_rfl⟩) fuok52x32
theorem fuok268x256 : AllK fuP 268 256 fu268x256 := AllK.node AllK.nil (fun _ h => nomatch h) AllK.nil
theorem fuok140x128 : AllK fuP 140 128 fu140x128 := AllK.node fuok268x256 (fun _ h => nomatch h) AllK.nil
theorem fuok204x128 : AllK fuP 204 128 fu204x128 := AllK.node AllK.nil (fun _ h => nomatch h) AllK.nil
theorem fuok76x64 : AllK fuP 76 64 fu76x64 := AllK.node fuok140x128 (fun x h => by cases h; exact ⟨Tryz.func76, ne_of_beq (by kernel_rfl), fun c h => by cases h; kernel_rfl⟩) fuok204x128
theorem fuok300x256 : AllK fuP 300 256 fu300x256 := AllK.node AllK.nil (fun _ h => nomatch h) AllK.nil
theorem fuok172x128 : AllK fuP 172 128 fu172x128 := AllK.node fuok300x256 (fun x h => by cases h; exact ⟨Tryz.func172, ne_of_beq (by kernel_rfl), fun c h => by cases h; kernel_rfl⟩) AllK.nil
theorem fuok236x128 : AllK fuP 236 128 fu236x128 := AllK.node AllK.nil (fun x h => by cases h; exact ⟨Tryz.func236, ne_of_beq (by kernel_rfl), fun c h => by cases h; kernel_rfl⟩) AllK.nil
theorem fuok108x64 : AllK fuP 108 64 fu108x64 := AllK.node fuok172x128 (fun x h => by cases h; exact ⟨Tryz.func108, ne_of_beq (by kernel_rfl), fun c h => by cases h; kernel_rfl⟩) fuok236x128
theorem fuok44x32 : AllK fuP 44 32 fu44x32 := AllK.node fuok76x64 (fun x h => by cases h; exact ⟨Tryz.func44, ne_of_beq (by kernel_rfl), fun c h => by cases h; kernel_rfl⟩) fuok108x64
theorem fuok284x256 : AllK fuP 284 256 fu284x256 := AllK.node AllK.nil (fun _ h => nomatch h) AllK.nil
theorem fuok156x128 : AllK fuP 156 128 fu156x128 := AllK.node fuok284x256 (fun _ h => nomatch h) AllK.nil
theorem fuok220x128 : AllK fuP 220 128 fu220x128 := AllK.node AllK.nil (fun x h => by cases h; exact ⟨Tryz.func220, ne_of_beq (by kernel_rfl), fun c h => by cases h; kernel_rfl⟩) AllK.nil
theorem fuok92x64 : AllK fuP 92 64 fu92x64 := AllK.node fuok156x128 (fun x h => by cases h; exact ⟨Tryz.func92, ne_of_beq (by kernel_rfl), fun c h => by cases h; kernel_rfl⟩) fuok220x128
theorem fuok188x128 : AllK fuP 188 128 fu188x128 := AllK.node AllK.nil (fun x h => by cases h; exact ⟨Tryz.func188, ne_of_beq (by kernel_rfl), fun c h => by cases h; kernel_rfl⟩) AllK.nil
theorem fuok252x128 : AllK fuP 252 128 fu252x128 := AllK.node AllK.nil (fun _ h => nomatch h) AllK.nil
theorem fuok124x64 : AllK fuP 124 64 fu124x64 := AllK.node fuok188x128 (fun _ h => nomatch h) fuok252x128
theorem fuok60x32 : AllK fuP 60 32 fu60x32 := AllK.node fuok92x64 (fun x h => by cases h; exact ⟨Tryz.func60, ne_of_beq (by kernel_rfl), fun c h => by cases h; kernel_rfl⟩) fuok124x64
theorem fuok28x16 : AllK fuP 28 16 fu28x16 := AllK.node fuok44x32 (fun x h => by cases h; exact ⟨Tryz.func28, ne_of_beq (by kernel_rfl), fun c h => by cases h; kernel_rfl⟩) fuok60x32
theorem fuok12x8 : AllK fuP 12 8 fu12x8 := AllK.node fuok20x16 (fun x h => by cases h; exact ⟨Tryz.func12, ne_of_beq (by kernel_rfl), fun c h => by cases h; kernel_rfl⟩) fuok28x16
theorem fuok4x4 : AllK fuP 4 4 fu4x4 := AllK.node fuok8x8 (fun x h => by cases h; exact ⟨Tryz.func4, ne_of_beq (by kernel_rfl), fun c h => by cases h; kernel_rfl⟩) fuok12x8
theorem fuok258x256 : AllK fuP 258 256 fu258x256 := AllK.node AllK.nil (fun x h => by cases h; exact ⟨Tryz.func258, ne_of_beq (by kernel_rfl), fun c h => by cases h; kernel_rfl⟩) AllK.nil
theorem fuok130x128 : AllK fuP 130 128 fu130x128 := AllK.node fuok258x256 (fun x h => by cases h; exact ⟨Tryz.func130, ne_of_beq (by kernel_rfl), fun c h => by cases h; kernel_rfl⟩) AllK.nil
theorem fuok194x128 : AllK fuP 194 128 fu194x128 := AllK.node AllK.nil (fun _ h => nomatch h) AllK.nil
theorem fuok66x64 : AllK fuP 66 64 fu66x64 := AllK.node fuok130x128 (fun _ h => nomatch h) fuok194x128
theorem fuok290x256 : AllK fuP 290 256 fu290x256 := AllK.node AllK.nil (fun _ h => nomatch h) AllK.nil
theorem fuok162x128 : AllK fuP 162 128 fu162x128 := AllK.node fuok290x256 (fun _ h => nomatch h) AllK.nil
theorem fuok226x128 : AllK fuP 226 128 fu226x128 := AllK.node AllK.nil (fun x h => by cases h; exact ⟨Tryz.func226, ne_of_beq (by kernel_rfl), fun c h => by cases h; kernel_rfl⟩) AllK.nil
theorem fuok98x64 : AllK fuP 98 64 fu98x64 := AllK.node fuok162x128 (fun _ h => nomatch h) fuok226x128
theorem fuok34x32 : AllK fuP 34 32 fu34x32 := AllK.node fuok66x64 (fun x h => by cases h; exact ⟨Tryz.func34, ne_of_beq (by kernel_rfl), fun c h => by cases h; kernel_rfl⟩) fuok98x64
theorem fuok274x256 : AllK fuP 274 256 fu274x256 := AllK.node AllK.nil (fun _ h => nomatch h) AllK.nil
theorem fuok146x128 : AllK fuP 146 128 fu146x128 := AllK.node fuok274x256 (fun x h => by cases h; exact ⟨Tryz.func146, ne_of_beq (by kernel_rfl), fun c h => by cases h; kernel_rfl⟩) AllK.nil
theorem fuok210x128 : AllK fuP 210 128 fu210x128 := AllK.node AllK.nil (fun _ h => nomatch h) AllK.nil
theorem fuok82x64 : AllK fuP 82 64 fu82x64 := AllK.node fuok146x128 (fun _ h => nomatch h) fuok210x128
theorem fuok306x256 : AllK fuP 306 256 fu306x256 := AllK.node AllK.nil (fun _ h => nomatch h) AllK.nil
theorem fuok178x128 : AllK fuP 178 128 fu178x128 := AllK.node fuok306x256 (fun _ h => nomatch h) AllK.nil
theorem fuok242x128 : AllK fuP 242 128 fu242x128 := AllK.node AllK.nil (fun _ h => nomatch h) AllK.nil
theorem fuok114x64 : AllK fuP 114 64 fu114x64 := AllK.node fuok178x128 (fun x h => by cases h; exact ⟨Tryz.func114, ne_of_beq (by kernel_rfl), fun c h => by cases h; kernel_rfl⟩) fuok242x128
theorem fuok50x32 : AllK fuP 50 32 fu50x32 := AllK.node fuok82x64 (fun x h => by cases h; exact ⟨Tryz.func50, ne_of_beq (by kernel_rfl), fun c h => by cases h; kernel_rfl⟩) fuok114x64
theorem fuok18x16 : AllK fuP 18 16 fu18x16 := AllK.node fuok34x32 (fun x h => by cases h; exact ⟨Tryz.func18, ne_of_beq (by kernel_rfl), fun c h => by cases h; kernel_rfl⟩) fuok50x32
theorem fuok266x256 : AllK fuP 266 256 fu266x256 := AllK.node AllK.nil (fun _ h => nomatch h) AllK.nil
theorem fuok138x128 : AllK fuP 138 128 fu138x128 := AllK.node fuok266x256 (fun x h => by cases h; exact ⟨Tryz.func138, ne_of_beq (by kernel_rfl), fun c h => by cases h; kernel_rfl⟩) AllK.nil
theorem fuok202x128 : AllK fuP 202 128 fu202x128 := AllK.node AllK.nil (fun _ h => nomatch h) AllK.nil
theorem fuok74x64 : AllK fuP 74 64 fu74x64 := AllK.node fuok138x128 (fun x h => by cases h; exact ⟨Tryz.func74, ne_of_beq (by kernel_rfl), fun c h => by cases h; kernel_rfl⟩) fuok202x128
theorem fuok298x256 : AllK fuP 298 256 fu298x256 := AllK.node AllK.nil (fun _ h => nomatch h) AllK.nil
theorem fuok170x128 : AllK fuP 170 128 fu170x128 := AllK.node fuok298x256 (fun x h => by cases h; exact ⟨Tryz.func170, ne_of_beq (by kernel_rfl), fun c h => by cases h; kernel_rfl⟩) AllK.nil
theorem fuok234x128 : AllK fuP 234 128 fu234x128 := AllK.node AllK.nil (fun _ h => nomatch h) AllK.nil
theorem fuok106x64 : AllK fuP 106 64 fu106x64 := AllK.node fuok170x128 (fun x h => by cases h; exact ⟨Tryz.func106, ne_of_beq (by kernel_rfl), fun c h => by cases h; kernel_rfl⟩) fuok234x128
theorem fuok42x32 : AllK fuP 42 32 fu42x32 := AllK.node fuok74x64 (fun x h => by cases h; exact ⟨Tryz.func42, ne_of_beq (by kernel_rfl), fun c h => by cases h; kernel_rfl⟩) fuok106x64
theorem fuok282x256 : AllK fuP 282 256 fu282x256 := AllK.node AllK.nil (fun _ h => nomatch h) AllK.nil
theorem fuok154x128 : AllK fuP 154 128 fu154x128 := AllK.node fuok282x256 (fun _ h => nomatch h) AllK.nil
theorem fuok218x128 : AllK fuP 218 128 fu218x128 := AllK.node AllK.nil (fun x h => by cases h; exact ⟨Tryz.func218, ne_of_beq (by kernel_rfl), fun c h => by cases h; kernel_rfl⟩) AllK.nil
theorem fuok90x64 : AllK fuP 90 64 fu90x64 := AllK.node fuok154x128 (fun x h => by cases h; exact ⟨Tryz.func90, ne_of_beq (by kernel_rfl), fun c h => by cases h; kernel_rfl⟩) fuok218x128
theorem fuok186x128 : AllK fuP 186 128 fu186x128 := AllK.node AllK.nil (fun x h => by cases h; exact ⟨Tryz.func186, ne_of_beq (by kernel_rfl), fun c h => by cases h; kernel_rfl⟩) AllK.nil
theorem fuok250x128 : AllK fuP 250 128 fu250x128 := AllK.node AllK.nil (fun _ h => nomatch h) AllK.nil
theorem fuok122x64 : AllK fuP 122 64 fu122x64 := AllK.node fuok186x128 (fun _ h => nomatch h) fuok250x128
theorem fuok58x32 : AllK fuP 58 32 fu58x32 := AllK.node fuok90x64 (fun x h => by cases h; exact ⟨Tryz.func58, ne_of_beq (by kernel_rfl), fun c h => by cases h; kernel_rfl⟩) fuok122x64
theorem fuok26x16 : AllK fuP 26 16 fu26x16 := AllK.node fuok42x32 (fun x h => by cases h; exact ⟨Tryz.func26, ne_of_beq (by kernel_rfl), fun c h => by cases h; kernel_rfl⟩) fuok58x32
theorem fuok10x8 : AllK fuP 10 8 fu10x8 := AllK.node fuok18x16 (fun x h => by cases h; exact ⟨Tryz.func10, ne_of_beq (by kernel_rfl), fun c h => by cases h; kernel_rfl⟩) fuok26x16
theorem fuok262x256 : AllK fuP 262 256 fu262x256 := AllK.node AllK.nil (fun _ h => nomatch h) AllK.nil
theorem fuok134x128 : AllK fuP 134 128 fu134x128 := AllK.node fuok262x256 (fun _ h => nomatch h) AllK.nil
theorem fuok198x128 : AllK fuP 198 128 fu198x128 := AllK.node AllK.nil (fun x h => by cases h; exact ⟨Tryz.func198, ne_of_beq (by kernel_rfl), fun c h => by cases h; kernel_rfl⟩) AllK.nil
theorem fuok70x64 : AllK fuP 70 64 fu70x64 := AllK.node fuok134x128 (fun x h => by cases h; exact ⟨Tryz.func70, ne_of_beq (by kernel_rfl), fun c h => by cases h; kernel_rfl⟩) fuok198x128
theorem fuok294x256 : AllK fuP 294 256 fu294x256 := AllK.node AllK.nil (fun _ h => nomatch h) AllK.nil
theorem fuok166x128 : AllK fuP 166 128 fu166x128 := AllK.node fuok294x256 (fun _ h => nomatch h) AllK.nil
theorem fuok230x128 : AllK fuP 230 128 fu230x128 := AllK.node AllK.nil (fun x h => by cases h; exact ⟨Tryz.func230, ne_of_beq (by kernel_rfl), fun c h => by cases h; kernel_rfl⟩) AllK.nil
theorem fuok102x64 : AllK fuP 102 64 fu102x64 := AllK.node fuok166x128 (fun x h => by cases h; exact ⟨Tryz.func102, ne_of_beq (by kernel_rfl), fun c h => by cases h; kernel_rfl⟩) fuok230x128
theorem fuok38x32 : AllK fuP 38 32 fu38x32 := AllK.node fuok70x64 (fun x h => by cases h; exact ⟨Tryz.func38, ne_of_beq (by kernel_rfl), fun c h => by cases h; kernel_rfl⟩) fuok102x64
theorem fuok278x256 : AllK fuP 278 256 fu278x256 := AllK.node AllK.nil (fun _ h => nomatch h) AllK.nil
theorem fuok150x128 : AllK fuP 150 128 fu150x128 := AllK.node fuok278x256 (fun _ h => nomatch h) AllK.nil
theorem fuok214x128 : AllK fuP 214 128 fu214x128 := AllK.node AllK.nil (fun _ h => nomatch h) AllK.nil
theorem fuok86x64 : AllK fuP 86 64 fu86x64 := AllK.node fuok150x128 (fun x h => by cases h; exact ⟨Tryz.func86, ne_of_beq (by kernel_rfl), fun c h => by cases h; kernel_rfl⟩) fuok214x128
theorem fuok182x128 : AllK fuP 182 128 fu182x128 := AllK.node AllK.nil (fun _ h => nomatch h) AllK.nil
theorem fuok246x128 : AllK fuP 246 128 fu246x128 := AllK.node AllK.nil (fun _ h => nomatch h) AllK.nil
theorem fuok118x64 : AllK fuP 118 64 fu118x64 := AllK.node fuok182x128 (fun x h => by cases h; exact ⟨Tryz.func118, ne_of_beq (by kernel_rfl), fun c h => by cases h; kernel_rfl⟩) fuok246x128
theorem fuok54x32 : AllK fuP 54 32 fu54x32 := AllK.node fuok86x64 (fun x h => by cases h; exact ⟨Tryz.func54, ne_of_beq (by kernel_rfl), fun c h => by cases h; kernel_rfl⟩) fuok118x64
theorem fuok22x16 : AllK fuP 22 16 fu22x16 := AllK.node fuok38x32 (fun x h => by cases h; exact ⟨Tryz.func22, ne_of_beq (by kernel_rfl), fun c h => by cases h; kernel_rfl⟩) fuok54x32
theorem fuok270x256 : AllK fuP 270 256 fu270x256 := AllK.node AllK.nil (fun _ h => nomatch h) AllK.nil
theorem fuok142x128 : AllK fuP 142 128 fu142x128 := AllK.node fuok270x256 (fun x h => by cases h; exact ⟨Tryz.func142, ne_of_beq (by kernel_rfl), fun c h => by cases h; kernel_rfl⟩) AllK.nil
theorem fuok206x128 : AllK fuP 206 128 fu206x128 := AllK.node AllK.nil (fun _ h => nomatch h) AllK.nil
theorem fuok78x64 : AllK fuP 78 64 fu78x64 := AllK.node fuok142x128 (fun x h => by cases h; exact ⟨Tryz.func78, ne_of_beq (by kernel_rfl), fun c h => by cases h; kernel_rfl⟩) fuok206x128
theorem fuok302x256 : AllK fuP 302 256 fu302x256 := AllK.node AllK.nil (fun _ h => nomatch h) AllK.nil
theorem fuok174x128 : AllK fuP 174 128 fu174x128 := AllK.node fuok302x256 (fun x h => by cases h; exact ⟨Tryz.func174, ne_of_beq (by kernel_rfl), fun c h => by cases h; kernel_rfl⟩) AllK.nil
theorem fuok238x128 : AllK fuP 238 128 fu238x128 := AllK.node AllK.nil (fun x h => by cases h; exact ⟨Tryz.func238, ne_of_beq (by kernel_rfl), fun c h => by cases h; kernel_rfl⟩) AllK.nil
theorem fuok110x64 : AllK fuP 110 64 fu110x64 := AllK.node fuok174x128 (fun x h => by cases h; exact ⟨Tryz.func110, ne_of_beq (by kernel_rfl), fun c h => by cases h; kernel_rfl⟩) fuok238x128
theorem fuok46x32 : AllK fuP 46 32 fu46x32 := AllK.node fuok78x64 (fun x h => by cases h; exact ⟨Tryz.func46, ne_of_beq (by kernel_rfl), fun c h => by cases h; kernel_rfl⟩) fuok110x64
theorem fuok286x256 : AllK fuP 286 256 fu286x256 := AllK.node AllK.nil (fun _ h => nomatch h) AllK.nil
theorem fuok158x128 : AllK fuP 158 128 fu158x128 := AllK.node fuok286x256 (fun x h => by cases h; exact ⟨Tryz.func158, ne_of_beq (by kernel_rfl), fun c h => by cases h; kernel_rfl⟩) AllK.nil
theorem fuok222x128 : AllK fuP 222 128 fu222x128 := AllK.node AllK.nil (fun x h => by cases h; exact ⟨Tryz.func222, ne_of_beq (by kernel_rfl), fun c h => by cases h; kernel_rfl⟩) AllK.nil
theorem fuok94x64 : AllK fuP 94 64 fu94x64 := AllK.node fuok158x128 (fun _ h => nomatch h) fuok222x128
theorem fuok190x128 : AllK fuP 190 128 fu190x128 := AllK.node AllK.nil (fun _ h => nomatch h) AllK.nil
theorem fuok254x128 : AllK fuP 254 128 fu254x128 := AllK.node AllK.nil (fun _ h => nomatch h) AllK.nil
theorem fuok126x64 : AllK fuP 126 64 fu126x64 := AllK.node fuok190x128 (fun x h => by cases h; exact ⟨Tryz.func126, ne_of_beq (by kernel_rfl), fun c h => by cases h; kernel_rfl⟩) fuok254x128
theorem fuok62x32 : AllK fuP 62 32 fu62x32 := AllK.node fuok94x64 (fun x h => by cases h; exact ⟨Tryz.func62, ne_of_beq (by kernel_rfl), fun c h => by cases h; kernel_rfl⟩) fuok126x64
theorem fuok30x16 : AllK fuP 30 16 fu30x16 := AllK.node fuok46x32 (fun x h => by cases h; exact ⟨Tryz.func30, ne_of_beq (by kernel_rfl), fun c h => by cases h; kernel_rfl⟩) fuok62x32
theorem fuok14x8 : AllK fuP 14 8 fu14x8 := AllK.node fuok22x16 (fun x h => by cases h; exact ⟨Tryz.func14, ne_of_beq (by kernel_rfl), fun c h => by cases h; kernel_rfl⟩) fuok30x16
theorem fuok6x4 : AllK fuP 6 4 fu6x4 := AllK.node fuok10x8 (fun x h => by cases h; exact ⟨Tryz.func6, ne_of_beq (by kernel_rfl), fun c h => by cases h; kernel_rfl⟩) fuok14x8
theorem fuok2x2 : AllK fuP 2 2 fu2x2 := AllK.node fuok4x4 (fun _ h => nomatch h) fuok6x4
theorem fuok0x1 : AllK fuP 0 1 fu0x1 := AllK.node fuok1x2 (fun _ h => nomatch h) fuok2x2
noncomputable def types : Tr TI := ty0x1
noncomputable def funcs : Tr Go.Func := fu0x1
end Go.Proofs.YtkibpfkengpimaaGreatDoor
end
