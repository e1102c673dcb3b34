/- The table of the seat's types, and for each of its functions the rule by which a contract comes out of its verification condition. Printed by gen.py. -/
import Derived.Test.YtogdmmccbeipkaaGreatAbsShift
import Derived.Test.YtogdmmccbeipkaaGreatAbsSimp
import Derived.Test.YtogdmmccbeipkaaGreatProg
import Derived.KernelRfl
set_option linter.all false
namespace Go.Proofs.YtogdmmccbeipkaaGreat.A
open Go Go.Abs
set_option maxRecDepth 100000
theorem T0 : tiOf Tryz.prog 0 = { kind := TK.other, agg := false, size := 1, bytes := 0, zero := [AV.sc (Value.tuple { toList := [] })], fields := [], elem := 0 } := by kernel_rfl
theorem T1 : tiOf Tryz.prog 1 = { kind := TK.other, agg := false, size := 1, bytes := 8, zero := [AV.sc Value.nilFunc], fields := [], elem := 0 } := by kernel_rfl
theorem T2 : tiOf Tryz.prog 2 = { kind := TK.int IntKind.i64, agg := false, size := 1, bytes := 8, zero := [AV.int (0)], fields := [], elem := 0 } := by kernel_rfl
theorem T3 : tiOf Tryz.prog 3 = { kind := TK.int IntKind.i64, agg := false, size := 1, bytes := 8, zero := [AV.int (0)], fields := [], elem := 0 } := by kernel_rfl
theorem T4 : tiOf Tryz.prog 4 = { kind := TK.bool, agg := false, size := 1, bytes := 1, zero := [AV.bool false], fields := [], elem := 0 } := by kernel_rfl
theorem T5 : tiOf Tryz.prog 5 = { kind := TK.int IntKind.u8, agg := false, size := 1, bytes := 1, zero := [AV.sc (Value.int IntKind.u8 (0))], fields := [], elem := 0 } := by kernel_rfl
theorem T6 : tiOf Tryz.prog 6 = { kind := TK.int IntKind.u8, agg := false, size := 1, bytes := 1, zero := [AV.sc (Value.int IntKind.u8 (0))], fields := [], elem := 0 } := by kernel_rfl
theorem T7 : tiOf Tryz.prog 7 = { kind := TK.struct, agg := true, size := 4, bytes := 24, zero := [AV.int (0), AV.int (0), AV.bool false, AV.sc (Value.int IntKind.u8 (0))], fields := [(0, 2), (1, 3), (2, 4), (3, 6)], elem := 0 } := by kernel_rfl
theorem T8 : tiOf Tryz.prog 8 = { kind := TK.struct, agg := true, size := 4, bytes := 24, zero := [AV.int (0), AV.int (0), AV.bool false, AV.sc (Value.int IntKind.u8 (0))], fields := [(0, 2), (1, 3), (2, 4), (3, 6)], elem := 0 } := by kernel_rfl
theorem T9 : tiOf Tryz.prog 9 = { kind := TK.other, agg := false, size := 1, bytes := 16, zero := [AV.sc (Value.string { data := { toList := [] } })], fields := [], elem := 0 } := by kernel_rfl
theorem T10 : tiOf Tryz.prog 10 = { kind := TK.other, agg := false, size := 1, bytes := 16, zero := [AV.sc (Value.string { data := { toList := [] } })], fields := [], elem := 0 } := by kernel_rfl
theorem T11 : tiOf Tryz.prog 11 = { kind := TK.other, agg := false, size := 1, bytes := 16, zero := [AV.sc (Value.string { data := { toList := [] } })], fields := [], elem := 0 } := by kernel_rfl
theorem T12 : tiOf Tryz.prog 12 = { kind := TK.int IntKind.u64, agg := false, size := 1, bytes := 8, zero := [AV.sc (Value.int IntKind.u64 (0))], fields := [], elem := 0 } := by kernel_rfl
theorem T13 : tiOf Tryz.prog 13 = { kind := TK.struct, agg := true, size := 2, bytes := 24, zero := [AV.sc (Value.string { data := { toList := [] } }), AV.sc (Value.int IntKind.u64 (0))], fields := [(0, 9), (1, 12)], elem := 0 } := by kernel_rfl
theorem T14 : tiOf Tryz.prog 14 = { kind := TK.struct, agg := true, size := 2, bytes := 24, zero := [AV.sc (Value.string { data := { toList := [] } }), AV.sc (Value.int IntKind.u64 (0))], fields := [(0, 9), (1, 12)], elem := 0 } := by kernel_rfl
theorem T15 : tiOf Tryz.prog 15 = { kind := TK.other, agg := false, size := 1, bytes := 8, zero := [AV.sc (Value.pointer none)], fields := [], elem := 0 } := by kernel_rfl
theorem T16 : tiOf Tryz.prog 16 = { kind := TK.other, agg := false, size := 1, bytes := 8, zero := [AV.sc (Value.pointer none)], fields := [], elem := 0 } := by kernel_rfl
theorem T17 : tiOf Tryz.prog 17 = { kind := TK.other, agg := false, size := 1, bytes := 8, zero := [AV.sc (Value.pointer none)], fields := [], elem := 0 } := by kernel_rfl
theorem T18 : tiOf Tryz.prog 18 = { kind := TK.struct, agg := true, size := 1, bytes := 8, zero := [AV.sc (Value.pointer none)], fields := [(0, 17)], elem := 0 } := by kernel_rfl
theorem T19 : tiOf Tryz.prog 19 = { kind := TK.struct, agg := true, size := 1, bytes := 8, zero := [AV.sc (Value.pointer none)], fields := [(0, 17)], elem := 0 } := by kernel_rfl
theorem T20 : tiOf Tryz.prog 20 = { kind := TK.other, agg := false, size := 1, bytes := 16, zero := [AV.sc Value.nilIface], fields := [], elem := 0 } := by kernel_rfl
theorem T21 : tiOf Tryz.prog 21 = { kind := TK.int IntKind.i32, agg := false, size := 1, bytes := 4, zero := [AV.sc (Value.int IntKind.i32 (0))], fields := [], elem := 0 } := by kernel_rfl
theorem T22 : tiOf Tryz.prog 22 = { kind := TK.slice, agg := false, size := 1, bytes := 24, zero := [AV.nils], fields := [], elem := 50 } := by kernel_rfl
theorem T23 : tiOf Tryz.prog 23 = { kind := TK.struct, agg := true, size := 2, bytes := 32, zero := [AV.int (0), AV.nils], fields := [(0, 3), (1, 22)], elem := 0 } := by kernel_rfl
theorem T24 : tiOf Tryz.prog 24 = { kind := TK.struct, agg := true, size := 2, bytes := 32, zero := [AV.int (0), AV.nils], fields := [(0, 3), (1, 22)], elem := 0 } := by kernel_rfl
theorem T25 : tiOf Tryz.prog 25 = { kind := TK.slice, agg := false, size := 1, bytes := 24, zero := [AV.nils], fields := [], elem := 52 } := by kernel_rfl
theorem T26 : tiOf Tryz.prog 26 = { kind := TK.other, agg := false, size := 1, bytes := 8, zero := [AV.sc Value.nilFunc], fields := [], elem := 0 } := by kernel_rfl
theorem T27 : tiOf Tryz.prog 27 = { kind := TK.other, agg := false, size := 1, bytes := 8, zero := [AV.sc Value.nilFunc], fields := [], elem := 0 } := by kernel_rfl
theorem T28 : tiOf Tryz.prog 28 = { kind := TK.slice, agg := false, size := 1, bytes := 24, zero := [AV.nils], fields := [], elem := 70 } := by kernel_rfl
theorem T29 : tiOf Tryz.prog 29 = { kind := TK.other, agg := false, size := 1, bytes := 0, zero := [AV.sc (Value.tuple { toList := [Value.slice none 0 0, Value.bool false] })], fields := [], elem := 0 } := by kernel_rfl
theorem T30 : tiOf Tryz.prog 30 = { kind := TK.other, agg := false, size := 1, bytes := 8, zero := [AV.sc Value.nilFunc], fields := [], elem := 0 } := by kernel_rfl
theorem T31 : tiOf Tryz.prog 31 = { kind := TK.struct, agg := true, size := 2, bytes := 32, zero := [AV.int (0), AV.nils], fields := [(0, 3), (1, 22)], elem := 0 } := by kernel_rfl
theorem T32 : tiOf Tryz.prog 32 = { kind := TK.other, agg := false, size := 1, bytes := 8, zero := [AV.sc Value.nilFunc], fields := [], elem := 0 } := by kernel_rfl
theorem T33 : tiOf Tryz.prog 33 = { kind := TK.slice, agg := false, size := 1, bytes := 24, zero := [AV.nils], fields := [], elem := 58 } := by kernel_rfl
theorem T34 : tiOf Tryz.prog 34 = { kind := TK.other, agg := false, size := 1, bytes := 8, zero := [AV.sc Value.nilFunc], fields := [], elem := 0 } := by kernel_rfl
theorem T35 : tiOf Tryz.prog 35 = { kind := TK.other, agg := false, size := 1, bytes := 8, zero := [AV.sc Value.nilFunc], fields := [], elem := 0 } := by kernel_rfl
theorem T36 : tiOf Tryz.prog 36 = { kind := TK.other, agg := false, size := 1, bytes := 8, zero := [AV.sc Value.nilFunc], fields := [], elem := 0 } := by kernel_rfl
theorem T37 : tiOf Tryz.prog 37 = { kind := TK.other, agg := false, size := 1, bytes := 8, zero := [AV.sc Value.nilFunc], fields := [], elem := 0 } := by kernel_rfl
theorem T38 : tiOf Tryz.prog 38 = { kind := TK.other, agg := false, size := 1, bytes := 8, zero := [AV.sc Value.nilFunc], fields := [], elem := 0 } := by kernel_rfl
theorem T39 : tiOf Tryz.prog 39 = { kind := TK.other, agg := false, size := 1, bytes := 8, zero := [AV.sc Value.nilFunc], fields := [], elem := 0 } := by kernel_rfl
theorem T40 : tiOf Tryz.prog 40 = { kind := TK.other, agg := false, size := 1, bytes := 8, zero := [AV.sc Value.nilFunc], fields := [], elem := 0 } := by kernel_rfl
theorem T41 : tiOf Tryz.prog 41 = { kind := TK.other, agg := false, size := 1, bytes := 8, zero := [AV.sc Value.nilFunc], fields := [], elem := 0 } := by kernel_rfl
theorem T42 : tiOf Tryz.prog 42 = { kind := TK.slice, agg := false, size := 1, bytes := 24, zero := [AV.nils], fields := [], elem := 4 } := by kernel_rfl
theorem T43 : tiOf Tryz.prog 43 = { kind := TK.other, agg := false, size := 1, bytes := 0, zero := [AV.sc (Value.tuple { toList := [Value.slice none 0 0, Value.bool false] })], fields := [], elem := 0 } := by kernel_rfl
theorem T44 : tiOf Tryz.prog 44 = { kind := TK.other, agg := false, size := 1, bytes := 8, zero := [AV.sc Value.nilFunc], fields := [], elem := 0 } := by kernel_rfl
theorem T45 : tiOf Tryz.prog 45 = { kind := TK.other, agg := false, size := 1, bytes := 8, zero := [AV.sc Value.nilFunc], fields := [], elem := 0 } := by kernel_rfl
theorem T46 : tiOf Tryz.prog 46 = { kind := TK.other, agg := false, size := 1, bytes := 8, zero := [AV.sc Value.nilFunc], fields := [], elem := 0 } := by kernel_rfl
theorem T47 : tiOf Tryz.prog 47 = { kind := TK.other, agg := false, size := 1, bytes := 8, zero := [AV.sc Value.nilFunc], fields := [], elem := 0 } := by kernel_rfl
theorem T48 : tiOf Tryz.prog 48 = { kind := TK.other, agg := false, size := 1, bytes := 8, zero := [AV.sc Value.nilFunc], fields := [], elem := 0 } := by kernel_rfl
theorem T49 : tiOf Tryz.prog 49 = { kind := TK.other, agg := false, size := 1, bytes := 8, zero := [AV.sc Value.nilFunc], fields := [], elem := 0 } := by kernel_rfl
theorem T50 : tiOf Tryz.prog 50 = { kind := TK.slice, agg := false, size := 1, bytes := 24, zero := [AV.nils], fields := [], elem := 3 } := by kernel_rfl
theorem T51 : tiOf Tryz.prog 51 = { kind := TK.struct, agg := true, size := 4, bytes := 48, zero := [AV.nils, AV.int (0), AV.int (0), AV.int (0)], fields := [(0, 50), (1, 3), (2, 3), (3, 3)], elem := 0 } := by kernel_rfl
theorem T52 : tiOf Tryz.prog 52 = { kind := TK.struct, agg := true, size := 4, bytes := 48, zero := [AV.nils, AV.int (0), AV.int (0), AV.int (0)], fields := [(0, 50), (1, 3), (2, 3), (3, 3)], elem := 0 } := by kernel_rfl
theorem T53 : tiOf Tryz.prog 53 = { kind := TK.other, agg := false, size := 1, bytes := 8, zero := [AV.sc Value.nilFunc], fields := [], elem := 0 } := by kernel_rfl
theorem T54 : tiOf Tryz.prog 54 = { kind := TK.other, agg := false, size := 1, bytes := 8, zero := [AV.sc Value.nilFunc], fields := [], elem := 0 } := by kernel_rfl
theorem T55 : tiOf Tryz.prog 55 = { kind := TK.other, agg := false, size := 1, bytes := 8, zero := [AV.sc Value.nilFunc], fields := [], elem := 0 } := by kernel_rfl
theorem T56 : tiOf Tryz.prog 56 = { kind := TK.other, agg := false, size := 1, bytes := 8, zero := [AV.sc Value.nilFunc], fields := [], elem := 0 } := by kernel_rfl
theorem T57 : tiOf Tryz.prog 57 = { kind := TK.other, agg := false, size := 1, bytes := 8, zero := [AV.sc Value.nilFunc], fields := [], elem := 0 } := by kernel_rfl
theorem T58 : tiOf Tryz.prog 58 = { kind := TK.struct, agg := true, size := 4, bytes := 48, zero := [AV.nils, AV.int (0), AV.int (0), AV.int (0)], fields := [(0, 50), (1, 3), (2, 3), (3, 3)], elem := 0 } := by kernel_rfl
theorem T59 : tiOf Tryz.prog 59 = { kind := TK.other, agg := false, size := 1, bytes := 8, zero := [AV.sc Value.nilFunc], fields := [], elem := 0 } := by kernel_rfl
theorem T60 : tiOf Tryz.prog 60 = { kind := TK.other, agg := false, size := 1, bytes := 0, zero := [AV.sc (Value.tuple { toList := [Value.bool false, Value.bool false] })], fields := [], elem := 0 } := by kernel_rfl
theorem T61 : tiOf Tryz.prog 61 = { kind := TK.other, agg := false, size := 1, bytes := 8, zero := [AV.sc Value.nilFunc], fields := [], elem := 0 } := by kernel_rfl
theorem T62 : tiOf Tryz.prog 62 = { kind := TK.other, agg := false, size := 1, bytes := 8, zero := [AV.sc Value.nilFunc], fields := [], elem := 0 } := by kernel_rfl
theorem T63 : tiOf Tryz.prog 63 = { kind := TK.other, agg := false, size := 1, bytes := 8, zero := [AV.sc Value.nilFunc], fields := [], elem := 0 } := by kernel_rfl
theorem T64 : tiOf Tryz.prog 64 = { kind := TK.other, agg := false, size := 1, bytes := 8, zero := [AV.sc Value.nilFunc], fields := [], elem := 0 } := by kernel_rfl
theorem T65 : tiOf Tryz.prog 65 = { kind := TK.struct, agg := true, size := 2, bytes := 16, zero := [AV.sc Value.nilFunc, AV.sc Value.nilFunc], fields := [(0, 63), (1, 64)], elem := 0 } := by kernel_rfl
theorem T66 : tiOf Tryz.prog 66 = { kind := TK.struct, agg := true, size := 2, bytes := 16, zero := [AV.sc Value.nilFunc, AV.sc Value.nilFunc], fields := [(0, 63), (1, 64)], elem := 0 } := by kernel_rfl
theorem T67 : tiOf Tryz.prog 67 = { kind := TK.other, agg := false, size := 1, bytes := 8, zero := [AV.sc Value.nilFunc], fields := [], elem := 0 } := by kernel_rfl
theorem T68 : tiOf Tryz.prog 68 = { kind := TK.other, agg := false, size := 1, bytes := 8, zero := [AV.sc Value.nilFunc], fields := [], elem := 0 } := by kernel_rfl
theorem T69 : tiOf Tryz.prog 69 = { kind := TK.struct, agg := true, size := 3, bytes := 24, zero := [AV.int (0), AV.int (0), AV.int (0)], fields := [(0, 3), (1, 3), (2, 3)], elem := 0 } := by kernel_rfl
theorem T70 : tiOf Tryz.prog 70 = { kind := TK.struct, agg := true, size := 3, bytes := 24, zero := [AV.int (0), AV.int (0), AV.int (0)], fields := [(0, 3), (1, 3), (2, 3)], elem := 0 } := by kernel_rfl
theorem T71 : tiOf Tryz.prog 71 = { kind := TK.other, agg := false, size := 1, bytes := 8, zero := [AV.sc Value.nilFunc], fields := [], elem := 0 } := by kernel_rfl
theorem T72 : tiOf Tryz.prog 72 = { kind := TK.other, agg := false, size := 1, bytes := 8, zero := [AV.sc Value.nilFunc], fields := [], elem := 0 } := by kernel_rfl
theorem T73 : tiOf Tryz.prog 73 = { kind := TK.other, agg := false, size := 1, bytes := 8, zero := [AV.sc Value.nilFunc], fields := [], elem := 0 } := by kernel_rfl
theorem T74 : tiOf Tryz.prog 74 = { kind := TK.struct, agg := true, size := 2, bytes := 48, zero := [AV.nils, AV.nils], fields := [(0, 28), (1, 50)], elem := 0 } := by kernel_rfl
theorem T75 : tiOf Tryz.prog 75 = { kind := TK.struct, agg := true, size := 2, bytes := 48, zero := [AV.nils, AV.nils], fields := [(0, 28), (1, 50)], elem := 0 } := by kernel_rfl
theorem T76 : tiOf Tryz.prog 76 = { kind := TK.other, agg := false, size := 1, bytes := 0, zero := [AV.sc (Value.tuple { toList := [Value.agg { toList := [Value.slice none 0 0, Value.slice none 0 0] }, Value.bool false] })], fields := [], elem := 0 } := by kernel_rfl
theorem T77 : tiOf Tryz.prog 77 = { kind := TK.other, agg := false, size := 1, bytes := 8, zero := [AV.sc Value.nilFunc], fields := [], elem := 0 } := by kernel_rfl
theorem T78 : tiOf Tryz.prog 78 = { kind := TK.other, agg := false, size := 1, bytes := 8, zero := [AV.sc Value.nilFunc], fields := [], elem := 0 } := by kernel_rfl
theorem T79 : tiOf Tryz.prog 79 = { kind := TK.other, agg := false, size := 1, bytes := 8, zero := [AV.sc Value.nilFunc], fields := [], elem := 0 } := by kernel_rfl
theorem T80 : tiOf Tryz.prog 80 = { kind := TK.other, agg := false, size := 1, bytes := 8, zero := [AV.sc (Value.pointer none)], fields := [], elem := 0 } := by kernel_rfl
theorem T81 : tiOf Tryz.prog 81 = { kind := TK.other, agg := false, size := 1, bytes := 0, zero := [AV.sc (Value.tuple { toList := [Value.pointer none, Value.bool false] })], fields := [], elem := 0 } := by kernel_rfl
theorem T82 : tiOf Tryz.prog 82 = { kind := TK.other, agg := false, size := 1, bytes := 8, zero := [AV.sc Value.nilFunc], fields := [], elem := 0 } := by kernel_rfl
theorem T83 : tiOf Tryz.prog 83 = { kind := TK.other, agg := false, size := 1, bytes := 8, zero := [AV.sc (Value.pointer none)], fields := [], elem := 0 } := by kernel_rfl
theorem T84 : tiOf Tryz.prog 84 = { kind := TK.struct, agg := true, size := 3, bytes := 56, zero := [AV.sc (Value.pointer none), AV.nils, AV.nils], fields := [(0, 83), (1, 28), (2, 50)], elem := 0 } := by kernel_rfl
theorem T85 : tiOf Tryz.prog 85 = { kind := TK.struct, agg := true, size := 3, bytes := 56, zero := [AV.sc (Value.pointer none), AV.nils, AV.nils], fields := [(0, 83), (1, 28), (2, 50)], elem := 0 } := by kernel_rfl
theorem T86 : tiOf Tryz.prog 86 = { kind := TK.other, agg := false, size := 1, bytes := 8, zero := [AV.sc Value.nilFunc], fields := [], elem := 0 } := by kernel_rfl
theorem T87 : tiOf Tryz.prog 87 = { kind := TK.other, agg := false, size := 1, bytes := 8, zero := [AV.sc Value.nilFunc], fields := [], elem := 0 } := by kernel_rfl
theorem T88 : tiOf Tryz.prog 88 = { kind := TK.other, agg := false, size := 1, bytes := 8, zero := [AV.sc Value.nilFunc], fields := [], elem := 0 } := by kernel_rfl
theorem T89 : tiOf Tryz.prog 89 = { kind := TK.other, agg := false, size := 1, bytes := 0, zero := [AV.sc (Value.tuple { toList := [Value.slice none 0 0, Value.slice none 0 0, Value.slice none 0 0] })], fields := [], elem := 0 } := by kernel_rfl
theorem T90 : tiOf Tryz.prog 90 = { kind := TK.other, agg := false, size := 1, bytes := 8, zero := [AV.sc Value.nilFunc], fields := [], elem := 0 } := by kernel_rfl
theorem T91 : tiOf Tryz.prog 91 = { kind := TK.other, agg := false, size := 1, bytes := 8, zero := [AV.sc Value.nilFunc], fields := [], elem := 0 } := by kernel_rfl
theorem T92 : tiOf Tryz.prog 92 = { kind := TK.other, agg := false, size := 1, bytes := 8, zero := [AV.sc Value.nilFunc], fields := [], elem := 0 } := by kernel_rfl
theorem T93 : tiOf Tryz.prog 93 = { kind := TK.other, agg := false, size := 1, bytes := 8, zero := [AV.sc Value.nilFunc], fields := [], elem := 0 } := by kernel_rfl
theorem T94 : tiOf Tryz.prog 94 = { kind := TK.other, agg := false, size := 1, bytes := 8, zero := [AV.sc Value.nilFunc], fields := [], elem := 0 } := by kernel_rfl
theorem T95 : tiOf Tryz.prog 95 = { kind := TK.other, agg := false, size := 1, bytes := 8, zero := [AV.sc Value.nilFunc], fields := [], elem := 0 } := by kernel_rfl
theorem T96 : tiOf Tryz.prog 96 = { kind := TK.other, agg := false, size := 1, bytes := 8, zero := [AV.sc Value.nilFunc], fields := [], elem := 0 } := by kernel_rfl
theorem T97 : tiOf Tryz.prog 97 = { kind := TK.other, agg := false, size := 1, bytes := 0, zero := [AV.sc (Value.tuple { toList := [Value.pointer none, Value.bool false] })], fields := [], elem := 0 } := by kernel_rfl
theorem T98 : tiOf Tryz.prog 98 = { kind := TK.other, agg := false, size := 1, bytes := 8, zero := [AV.sc Value.nilFunc], fields := [], elem := 0 } := by kernel_rfl
theorem T99 : tiOf Tryz.prog 99 = { kind := TK.other, agg := false, size := 1, bytes := 8, zero := [AV.sc Value.nilFunc], fields := [], elem := 0 } := by kernel_rfl
theorem T100 : tiOf Tryz.prog 100 = { kind := TK.other, agg := false, size := 1, bytes := 8, zero := [AV.sc Value.nilFunc], fields := [], elem := 0 } := by kernel_rfl
theorem T101 : tiOf Tryz.prog 101 = { kind := TK.other, agg := false, size := 1, bytes := 8, zero := [AV.sc Value.nilFunc], fields := [], elem := 0 } := by kernel_rfl
theorem T102 : tiOf Tryz.prog 102 = { kind := TK.other, agg := false, size := 1, bytes := 8, zero := [AV.sc Value.nilFunc], fields := [], elem := 0 } := by kernel_rfl
theorem T103 : tiOf Tryz.prog 103 = { kind := TK.other, agg := false, size := 1, bytes := 8, zero := [AV.sc Value.nilFunc], fields := [], elem := 0 } := by kernel_rfl
theorem T104 : tiOf Tryz.prog 104 = { kind := TK.other, agg := false, size := 1, bytes := 8, zero := [AV.sc Value.nilFunc], fields := [], elem := 0 } := by kernel_rfl
theorem T105 : tiOf Tryz.prog 105 = { kind := TK.other, agg := false, size := 1, bytes := 8, zero := [AV.sc Value.nilFunc], fields := [], elem := 0 } := by kernel_rfl
theorem T106 : tiOf Tryz.prog 106 = { kind := TK.other, agg := false, size := 1, bytes := 8, zero := [AV.sc Value.nilFunc], fields := [], elem := 0 } := by kernel_rfl
theorem T107 : tiOf Tryz.prog 107 = { kind := TK.other, agg := false, size := 1, bytes := 8, zero := [AV.sc Value.nilFunc], fields := [], elem := 0 } := by kernel_rfl
theorem T108 : tiOf Tryz.prog 108 = { kind := TK.other, agg := false, size := 1, bytes := 8, zero := [AV.sc Value.nilFunc], fields := [], elem := 0 } := by kernel_rfl
theorem T109 : tiOf Tryz.prog 109 = { kind := TK.other, agg := false, size := 1, bytes := 8, zero := [AV.sc Value.nilFunc], fields := [], elem := 0 } := by kernel_rfl
theorem T110 : tiOf Tryz.prog 110 = { kind := TK.struct, agg := true, size := 4, bytes := 64, zero := [AV.int (0), AV.nils, AV.int (0), AV.nils], fields := [(0, 31), (2, 3), (3, 50)], elem := 0 } := by kernel_rfl
theorem T111 : tiOf Tryz.prog 111 = { kind := TK.struct, agg := true, size := 4, bytes := 64, zero := [AV.int (0), AV.nils, AV.int (0), AV.nils], fields := [(0, 31), (2, 3), (3, 50)], elem := 0 } := by kernel_rfl
theorem T112 : tiOf Tryz.prog 112 = { kind := TK.other, agg := false, size := 1, bytes := 8, zero := [AV.sc Value.nilFunc], fields := [], elem := 0 } := by kernel_rfl
theorem T113 : tiOf Tryz.prog 113 = { kind := TK.other, agg := false, size := 1, bytes := 8, zero := [AV.sc Value.nilFunc], fields := [], elem := 0 } := by kernel_rfl
theorem T114 : tiOf Tryz.prog 114 = { kind := TK.other, agg := false, size := 1, bytes := 8, zero := [AV.sc Value.nilFunc], fields := [], elem := 0 } := by kernel_rfl
theorem T115 : tiOf Tryz.prog 115 = { kind := TK.other, agg := false, size := 1, bytes := 8, zero := [AV.sc Value.nilFunc], fields := [], elem := 0 } := by kernel_rfl
theorem T116 : tiOf Tryz.prog 116 = { kind := TK.other, agg := false, size := 1, bytes := 8, zero := [AV.sc Value.nilFunc], fields := [], elem := 0 } := by kernel_rfl
theorem T117 : tiOf Tryz.prog 117 = { kind := TK.other, agg := false, size := 1, bytes := 8, zero := [AV.sc Value.nilFunc], fields := [], elem := 0 } := by kernel_rfl
theorem T118 : tiOf Tryz.prog 118 = { kind := TK.other, agg := false, size := 1, bytes := 8, zero := [AV.sc Value.nilFunc], fields := [], elem := 0 } := by kernel_rfl
theorem T119 : tiOf Tryz.prog 119 = { kind := TK.other, agg := false, size := 1, bytes := 8, zero := [AV.sc Value.nilFunc], fields := [], elem := 0 } := by kernel_rfl
theorem T120 : tiOf Tryz.prog 120 = { kind := TK.other, agg := false, size := 1, bytes := 8, zero := [AV.sc Value.nilFunc], fields := [], elem := 0 } := by kernel_rfl
theorem T121 : tiOf Tryz.prog 121 = { kind := TK.other, agg := false, size := 1, bytes := 8, zero := [AV.sc Value.nilFunc], fields := [], elem := 0 } := by kernel_rfl
theorem T122 : tiOf Tryz.prog 122 = { kind := TK.other, agg := false, size := 1, bytes := 8, zero := [AV.sc Value.nilFunc], fields := [], elem := 0 } := by kernel_rfl
theorem T123 : tiOf Tryz.prog 123 = { kind := TK.other, agg := false, size := 1, bytes := 8, zero := [AV.sc Value.nilFunc], fields := [], elem := 0 } := by kernel_rfl
theorem T124 : tiOf Tryz.prog 124 = { kind := TK.struct, agg := true, size := 2, bytes := 48, zero := [AV.nils, AV.nils], fields := [(0, 33), (1, 50)], elem := 0 } := by kernel_rfl
theorem T125 : tiOf Tryz.prog 125 = { kind := TK.struct, agg := true, size := 2, bytes := 48, zero := [AV.nils, AV.nils], fields := [(0, 33), (1, 50)], elem := 0 } := by kernel_rfl
theorem T126 : tiOf Tryz.prog 126 = { kind := TK.other, agg := false, size := 1, bytes := 8, zero := [AV.sc Value.nilFunc], fields := [], elem := 0 } := by kernel_rfl
theorem T127 : tiOf Tryz.prog 127 = { kind := TK.other, agg := false, size := 1, bytes := 8, zero := [AV.sc Value.nilFunc], fields := [], elem := 0 } := by kernel_rfl
theorem T128 : tiOf Tryz.prog 128 = { kind := TK.other, agg := false, size := 1, bytes := 8, zero := [AV.sc Value.nilFunc], fields := [], elem := 0 } := by kernel_rfl
theorem T129 : tiOf Tryz.prog 129 = { kind := TK.other, agg := false, size := 1, bytes := 8, zero := [AV.sc Value.nilFunc], fields := [], elem := 0 } := by kernel_rfl
theorem T130 : tiOf Tryz.prog 130 = { kind := TK.other, agg := false, size := 1, bytes := 8, zero := [AV.sc (Value.pointer none)], fields := [], elem := 0 } := by kernel_rfl
theorem T131 : tiOf Tryz.prog 131 = { kind := TK.struct, agg := true, size := 2, bytes := 48, zero := [AV.nils, AV.nils], fields := [(0, 33), (1, 50)], elem := 0 } := by kernel_rfl
theorem T132 : tiOf Tryz.prog 132 = { kind := TK.struct, agg := true, size := 2, bytes := 48, zero := [AV.nils, AV.nils], fields := [(0, 33), (1, 50)], elem := 0 } := by kernel_rfl
theorem T133 : tiOf Tryz.prog 133 = { kind := TK.other, agg := false, size := 1, bytes := 8, zero := [AV.sc Value.nilFunc], fields := [], elem := 0 } := by kernel_rfl
theorem T134 : tiOf Tryz.prog 134 = { kind := TK.other, agg := false, size := 1, bytes := 8, zero := [AV.sc Value.nilFunc], fields := [], elem := 0 } := by kernel_rfl
theorem T135 : tiOf Tryz.prog 135 = { kind := TK.other, agg := false, size := 1, bytes := 8, zero := [AV.sc Value.nilFunc], fields := [], elem := 0 } := by kernel_rfl
theorem T136 : tiOf Tryz.prog 136 = { kind := TK.other, agg := false, size := 1, bytes := 8, zero := [AV.sc Value.nilFunc], fields := [], elem := 0 } := by kernel_rfl
theorem T137 : tiOf Tryz.prog 137 = { kind := TK.other, agg := false, size := 1, bytes := 8, zero := [AV.sc Value.nilFunc], fields := [], elem := 0 } := by kernel_rfl
theorem T138 : tiOf Tryz.prog 138 = { kind := TK.other, agg := false, size := 1, bytes := 8, zero := [AV.sc Value.nilFunc], fields := [], elem := 0 } := by kernel_rfl
theorem T139 : tiOf Tryz.prog 139 = { kind := TK.other, agg := false, size := 1, bytes := 8, zero := [AV.sc Value.nilFunc], fields := [], elem := 0 } := by kernel_rfl
theorem T140 : tiOf Tryz.prog 140 = { kind := TK.other, agg := false, size := 1, bytes := 8, zero := [AV.sc Value.nilFunc], fields := [], elem := 0 } := by kernel_rfl
theorem T141 : tiOf Tryz.prog 141 = { kind := TK.other, agg := false, size := 1, bytes := 0, zero := [AV.sc (Value.tuple { toList := [Value.slice none 0 0, Value.bool false] })], fields := [], elem := 0 } := by kernel_rfl
theorem T142 : tiOf Tryz.prog 142 = { kind := TK.other, agg := false, size := 1, bytes := 8, zero := [AV.sc Value.nilFunc], fields := [], elem := 0 } := by kernel_rfl
theorem T143 : tiOf Tryz.prog 143 = { kind := TK.other, agg := false, size := 1, bytes := 8, zero := [AV.sc Value.nilFunc], fields := [], elem := 0 } := by kernel_rfl
theorem T144 : tiOf Tryz.prog 144 = { kind := TK.other, agg := false, size := 1, bytes := 8, zero := [AV.sc Value.nilFunc], fields := [], elem := 0 } := by kernel_rfl
theorem T145 : tiOf Tryz.prog 145 = { kind := TK.other, agg := false, size := 1, bytes := 8, zero := [AV.sc Value.nilFunc], fields := [], elem := 0 } := by kernel_rfl
theorem T146 : tiOf Tryz.prog 146 = { kind := TK.int IntKind.u64, agg := false, size := 1, bytes := 8, zero := [AV.sc (Value.int IntKind.u64 (0))], fields := [], elem := 0 } := by kernel_rfl
theorem T147 : tiOf Tryz.prog 147 = { kind := TK.other, agg := false, size := 1, bytes := 8, zero := [AV.sc Value.nilFunc], fields := [], elem := 0 } := by kernel_rfl
theorem T148 : tiOf Tryz.prog 148 = { kind := TK.other, agg := false, size := 1, bytes := 8, zero := [AV.sc Value.nilFunc], fields := [], elem := 0 } := by kernel_rfl
theorem T149 : tiOf Tryz.prog 149 = { kind := TK.other, agg := false, size := 1, bytes := 8, zero := [AV.sc Value.nilFunc], fields := [], elem := 0 } := by kernel_rfl
theorem T150 : tiOf Tryz.prog 150 = { kind := TK.other, agg := false, size := 1, bytes := 8, zero := [AV.sc Value.nilFunc], fields := [], elem := 0 } := by kernel_rfl
theorem T151 : tiOf Tryz.prog 151 = { kind := TK.other, agg := false, size := 1, bytes := 8, zero := [AV.sc Value.nilFunc], fields := [], elem := 0 } := by kernel_rfl
theorem T152 : tiOf Tryz.prog 152 = { kind := TK.int IntKind.i64, agg := false, size := 1, bytes := 8, zero := [AV.int (0)], fields := [], elem := 0 } := by kernel_rfl
theorem T153 : tiOf Tryz.prog 153 = { kind := TK.other, agg := false, size := 1, bytes := 0, zero := [AV.sc (Value.tuple { toList := [Value.int IntKind.i64 (0), Value.int IntKind.i64 (0)] })], fields := [], elem := 0 } := by kernel_rfl
theorem T154 : tiOf Tryz.prog 154 = { kind := TK.other, agg := false, size := 1, bytes := 8, zero := [AV.sc Value.nilFunc], fields := [], elem := 0 } := by kernel_rfl
theorem T155 : tiOf Tryz.prog 155 = { kind := TK.other, agg := false, size := 1, bytes := 8, zero := [AV.sc Value.nilFunc], fields := [], elem := 0 } := by kernel_rfl
theorem T156 : tiOf Tryz.prog 156 = { kind := TK.other, agg := false, size := 1, bytes := 8, zero := [AV.sc Value.nilFunc], fields := [], elem := 0 } := by kernel_rfl
theorem T157 : tiOf Tryz.prog 157 = { kind := TK.other, agg := false, size := 1, bytes := 0, zero := [AV.sc (Value.tuple { toList := [Value.int IntKind.i64 (0), Value.bool false] })], fields := [], elem := 0 } := by kernel_rfl
theorem T158 : tiOf Tryz.prog 158 = { kind := TK.other, agg := false, size := 1, bytes := 8, zero := [AV.sc Value.nilFunc], fields := [], elem := 0 } := by kernel_rfl
theorem T159 : tiOf Tryz.prog 159 = { kind := TK.other, agg := false, size := 1, bytes := 8, zero := [AV.sc Value.nilFunc], fields := [], elem := 0 } := by kernel_rfl
theorem T160 : tiOf Tryz.prog 160 = { kind := TK.int IntKind.u32, agg := false, size := 1, bytes := 4, zero := [AV.sc (Value.int IntKind.u32 (0))], fields := [], elem := 0 } := by kernel_rfl
theorem T161 : tiOf Tryz.prog 161 = { kind := TK.other, agg := false, size := 1, bytes := 8, zero := [AV.sc Value.nilFunc], fields := [], elem := 0 } := by kernel_rfl
theorem T162 : tiOf Tryz.prog 162 = { kind := TK.int IntKind.u64, agg := false, size := 1, bytes := 8, zero := [AV.sc (Value.int IntKind.u64 (0))], fields := [], elem := 0 } := by kernel_rfl
theorem T163 : tiOf Tryz.prog 163 = { kind := TK.other, agg := false, size := 1, bytes := 8, zero := [AV.sc Value.nilFunc], fields := [], elem := 0 } := by kernel_rfl
theorem T164 : tiOf Tryz.prog 164 = { kind := TK.other, agg := false, size := 1, bytes := 8, zero := [AV.sc Value.nilFunc], fields := [], elem := 0 } := by kernel_rfl
theorem T165 : tiOf Tryz.prog 165 = { kind := TK.other, agg := false, size := 1, bytes := 8, zero := [AV.sc Value.nilFunc], fields := [], elem := 0 } := by kernel_rfl
theorem T166 : tiOf Tryz.prog 166 = { kind := TK.int IntKind.u64, agg := false, size := 1, bytes := 8, zero := [AV.sc (Value.int IntKind.u64 (0))], fields := [], elem := 0 } := by kernel_rfl
theorem T167 : tiOf Tryz.prog 167 = { kind := TK.other, agg := false, size := 1, bytes := 8, zero := [AV.sc Value.nilFunc], fields := [], elem := 0 } := by kernel_rfl
theorem T168 : tiOf Tryz.prog 168 = { kind := TK.other, agg := false, size := 1, bytes := 8, zero := [AV.sc Value.nilFunc], fields := [], elem := 0 } := by kernel_rfl
theorem T169 : tiOf Tryz.prog 169 = { kind := TK.other, agg := false, size := 1, bytes := 8, zero := [AV.sc Value.nilFunc], fields := [], elem := 0 } := by kernel_rfl
theorem T170 : tiOf Tryz.prog 170 = { kind := TK.other, agg := false, size := 1, bytes := 8, zero := [AV.sc (Value.pointer none)], fields := [], elem := 0 } := by kernel_rfl
theorem T171 : tiOf Tryz.prog 171 = { kind := TK.other, agg := false, size := 1, bytes := 8, zero := [AV.sc Value.nilFunc], fields := [], elem := 0 } := by kernel_rfl
theorem T172 : tiOf Tryz.prog 172 = { kind := TK.other, agg := false, size := 1, bytes := 8, zero := [AV.sc Value.nilFunc], fields := [], elem := 0 } := by kernel_rfl
theorem T173 : tiOf Tryz.prog 173 = { kind := TK.other, agg := false, size := 1, bytes := 8, zero := [AV.sc Value.nilFunc], fields := [], elem := 0 } := by kernel_rfl
theorem T174 : tiOf Tryz.prog 174 = { kind := TK.other, agg := false, size := 1, bytes := 8, zero := [AV.sc Value.nilFunc], fields := [], elem := 0 } := by kernel_rfl
theorem T175 : tiOf Tryz.prog 175 = { kind := TK.other, agg := false, size := 1, bytes := 8, zero := [AV.sc (Value.pointer none)], fields := [], elem := 0 } := by kernel_rfl
theorem T176 : tiOf Tryz.prog 176 = { kind := TK.other, agg := false, size := 1, bytes := 0, zero := [AV.sc (Value.tuple { toList := [Value.int IntKind.i64 (0), Value.int IntKind.i64 (0)] })], fields := [], elem := 0 } := by kernel_rfl
theorem T177 : tiOf Tryz.prog 177 = { kind := TK.other, agg := false, size := 1, bytes := 8, zero := [AV.sc Value.nilFunc], fields := [], elem := 0 } := by kernel_rfl
theorem T178 : tiOf Tryz.prog 178 = { kind := TK.other, agg := false, size := 1, bytes := 8, zero := [AV.sc Value.nilFunc], fields := [], elem := 0 } := by kernel_rfl
theorem T179 : tiOf Tryz.prog 179 = { kind := TK.other, agg := false, size := 1, bytes := 8, zero := [AV.sc Value.nilFunc], fields := [], elem := 0 } := by kernel_rfl
theorem T180 : tiOf Tryz.prog 180 = { kind := TK.other, agg := false, size := 1, bytes := 8, zero := [AV.sc Value.nilFunc], fields := [], elem := 0 } := by kernel_rfl
theorem T181 : tiOf Tryz.prog 181 = { kind := TK.other, agg := false, size := 1, bytes := 8, zero := [AV.sc Value.nilFunc], fields := [], elem := 0 } := by kernel_rfl
theorem T182 : tiOf Tryz.prog 182 = { kind := TK.other, agg := false, size := 1, bytes := 8, zero := [AV.sc Value.nilFunc], fields := [], elem := 0 } := by kernel_rfl
theorem T183 : tiOf Tryz.prog 183 = { kind := TK.other, agg := false, size := 1, bytes := 8, zero := [AV.sc Value.nilFunc], fields := [], elem := 0 } := by kernel_rfl
theorem T184 : tiOf Tryz.prog 184 = { kind := TK.other, agg := false, size := 1, bytes := 8, zero := [AV.sc Value.nilFunc], fields := [], elem := 0 } := by kernel_rfl
theorem T185 : tiOf Tryz.prog 185 = { kind := TK.other, agg := false, size := 1, bytes := 8, zero := [AV.sc Value.nilFunc], fields := [], elem := 0 } := by kernel_rfl
theorem T186 : tiOf Tryz.prog 186 = { kind := TK.other, agg := false, size := 1, bytes := 8, zero := [AV.sc Value.nilFunc], fields := [], elem := 0 } := by kernel_rfl
theorem T187 : tiOf Tryz.prog 187 = { kind := TK.struct, agg := true, size := 4, bytes := 40, zero := [AV.sc (Value.pointer none), AV.sc (Value.pointer none), AV.sc (Value.pointer none), AV.sc (Value.string { data := { toList := [] } })], fields := [(0, 17), (1, 17), (2, 17), (3, 9)], elem := 0 } := by kernel_rfl
theorem T188 : tiOf Tryz.prog 188 = { kind := TK.struct, agg := true, size := 4, bytes := 40, zero := [AV.sc (Value.pointer none), AV.sc (Value.pointer none), AV.sc (Value.pointer none), AV.sc (Value.string { data := { toList := [] } })], fields := [(0, 17), (1, 17), (2, 17), (3, 9)], elem := 0 } := by kernel_rfl
theorem T189 : tiOf Tryz.prog 189 = { kind := TK.other, agg := true, size := 0, bytes := 0, zero := [], fields := [], elem := 16 } := by kernel_rfl
theorem T190 : tiOf Tryz.prog 190 = { kind := TK.struct, agg := true, size := 0, bytes := 0, zero := [], fields := [(0, 189)], elem := 0 } := by kernel_rfl
theorem T191 : tiOf Tryz.prog 191 = { kind := TK.struct, agg := true, size := 0, bytes := 0, zero := [], fields := [(0, 189)], elem := 0 } := by kernel_rfl
theorem T192 : tiOf Tryz.prog 192 = { kind := TK.other, agg := false, size := 1, bytes := 8, zero := [AV.sc Value.nilFunc], fields := [], elem := 0 } := by kernel_rfl
theorem T193 : tiOf Tryz.prog 193 = { kind := TK.int IntKind.u8, agg := false, size := 1, bytes := 1, zero := [AV.sc (Value.int IntKind.u8 (0))], fields := [], elem := 0 } := by kernel_rfl
theorem T194 : tiOf Tryz.prog 194 = { kind := TK.int IntKind.u8, agg := false, size := 1, bytes := 1, zero := [AV.sc (Value.int IntKind.u8 (0))], fields := [], elem := 0 } := by kernel_rfl
theorem T195 : tiOf Tryz.prog 195 = { kind := TK.other, agg := false, size := 1, bytes := 8, zero := [AV.sc Value.nilFunc], fields := [], elem := 0 } := by kernel_rfl
theorem T196 : tiOf Tryz.prog 196 = { kind := TK.other, agg := false, size := 1, bytes := 8, zero := [AV.sc (Value.pointer none)], fields := [], elem := 0 } := by kernel_rfl
theorem T197 : tiOf Tryz.prog 197 = { kind := TK.int IntKind.i32, agg := false, size := 1, bytes := 4, zero := [AV.sc (Value.int IntKind.i32 (0))], fields := [], elem := 0 } := by kernel_rfl
theorem T198 : tiOf Tryz.prog 198 = { kind := TK.int IntKind.i32, agg := false, size := 1, bytes := 4, zero := [AV.sc (Value.int IntKind.i32 (0))], fields := [], elem := 0 } := by kernel_rfl
theorem T199 : tiOf Tryz.prog 199 = { kind := TK.struct, agg := true, size := 11, bytes := 48, zero := [AV.sc (Value.int IntKind.u64 (0)), AV.sc (Value.int IntKind.u64 (0)), AV.sc (Value.int IntKind.u32 (0)), AV.sc (Value.int IntKind.u8 (0)), AV.sc (Value.int IntKind.u8 (0)), AV.sc (Value.int IntKind.u8 (0)), AV.sc (Value.int IntKind.u8 (0)), AV.sc Value.nilFunc, AV.sc (Value.pointer none), AV.sc (Value.int IntKind.i32 (0)), AV.sc (Value.int IntKind.i32 (0))], fields := [(0, 12), (1, 12), (2, 160), (3, 193), (4, 5), (5, 5), (6, 194), (7, 195), (8, 196), (9, 197), (10, 198)], elem := 0 } := by kernel_rfl
theorem T200 : tiOf Tryz.prog 200 = { kind := TK.struct, agg := true, size := 11, bytes := 48, zero := [AV.sc (Value.int IntKind.u64 (0)), AV.sc (Value.int IntKind.u64 (0)), AV.sc (Value.int IntKind.u32 (0)), AV.sc (Value.int IntKind.u8 (0)), AV.sc (Value.int IntKind.u8 (0)), AV.sc (Value.int IntKind.u8 (0)), AV.sc (Value.int IntKind.u8 (0)), AV.sc Value.nilFunc, AV.sc (Value.pointer none), AV.sc (Value.int IntKind.i32 (0)), AV.sc (Value.int IntKind.i32 (0))], fields := [(0, 12), (1, 12), (2, 160), (3, 193), (4, 5), (5, 5), (6, 194), (7, 195), (8, 196), (9, 197), (10, 198)], elem := 0 } := by kernel_rfl
theorem T201 : tiOf Tryz.prog 201 = { kind := TK.other, agg := false, size := 1, bytes := 8, zero := [AV.sc Value.nilFunc], fields := [], elem := 0 } := by kernel_rfl
theorem T202 : tiOf Tryz.prog 202 = { kind := TK.other, agg := false, size := 1, bytes := 8, zero := [AV.sc (Value.pointer none)], fields := [], elem := 0 } := by kernel_rfl
attribute [go_sem] T0 T1 T2 T3 T4 T5 T6 T7 T8 T9 T10 T11 T12 T13 T14 T15 T16 T17 T18 T19 T20 T21 T22 T23 T24 T25 T26 T27 T28 T29 T30 T31 T32 T33 T34 T35 T36 T37 T38 T39 T40 T41 T42 T43 T44 T45 T46 T47 T48 T49 T50 T51 T52 T53 T54 T55 T56 T57 T58 T59 T60 T61 T62 T63 T64 T65 T66 T67 T68 T69 T70 T71 T72 T73 T74 T75 T76 T77 T78 T79 T80 T81 T82 T83 T84 T85 T86 T87 T88 T89 T90 T91 T92 T93 T94 T95 T96 T97 T98 T99 T100 T101 T102 T103 T104 T105 T106 T107 T108 T109 T110 T111 T112 T113 T114 T115 T116 T117 T118 T119 T120 T121 T122 T123 T124 T125 T126 T127 T128 T129 T130 T131 T132 T133 T134 T135 T136 T137 T138 T139 T140 T141 T142 T143 T144 T145 T146 T147 T148 T149 T150 T151 T152 T153 T154 T155 T156 T157 T158 T159 T160 T161 T162 T163 T164 T165 T166 T167 T168 T169 T170 T171 T172 T173 T174 T175 T176 T177 T178 T179 T180 T181 T182 T183 T184 T185 T186 T187 T188 T189 T190 T191 T192 T193 T194 T195 T196 T197 T198 T199 T200 T201 T202
theorem mixed : Tryz.prog.follows .mixedOrders = true := by kernel_rfl
theorem ok3 : codeOk Tryz.prog [] Tryz.f3.ntmps (Tryz.f3.body.getD .skip) = true := by kernel_rfl
theorem in3 {a0 a1 a2 : AV} {h : Heap} {nx : Nat} {K : AV → Heap → Nat → Prop} (H : aw Tryz.prog (tiOf Tryz.prog) [] [0, 1, 2, 3, 6, 7, 8, 9, 10, 11, 12, 13, 14, 15, 16, 17, 18, 23, 28, 57, 62, 67, 86, 94, 97, 115, 120, 123] (Tryz.f3.body.getD .skip) (postA (tiOf Tryz.prog) #[.tmp 6] K) ⟨E [(0, a0), (1, a1), (2, a2)], h, nx, 124⟩) :
    CallsA Tryz.prog 3 [a0, a1, a2] h nx K := CallsA.intro [] [0, 1, 2, 3, 6, 7, 8, 9, 10, 11, 12, 13, 14, 15, 16, 17, 18, 23, 28, 57, 62, 67, 86, 94, 97, 115, 120, 123] [.tmp 6] mixed Tryz.func3 rfl (by kernel_rfl) ok3 (Nat.le_of_ble_eq_true rfl) rfl (by decide) (by kernel_rfl) H
theorem ok4 : codeOk Tryz.prog [] Tryz.f4.ntmps (Tryz.f4.body.getD .skip) = true := by kernel_rfl
theorem in4 {a0 a1 a2 : AV} {h : Heap} {nx : Nat} {K : AV → Heap → Nat → Prop} (H : aw Tryz.prog (tiOf Tryz.prog) [] [0, 1, 2, 3, 6, 7, 8, 9, 10, 11, 12, 13, 14, 15, 16, 17, 18, 23, 28, 57, 62, 67, 86, 94, 97, 115, 120, 123] (Tryz.f4.body.getD .skip) (postA (tiOf Tryz.prog) #[.tmp 6] K) ⟨E [(0, a0), (1, a1), (2, a2)], h, nx, 124⟩) :
    CallsA Tryz.prog 4 [a0, a1, a2] h nx K := CallsA.intro [] [0, 1, 2, 3, 6, 7, 8, 9, 10, 11, 12, 13, 14, 15, 16, 17, 18, 23, 28, 57, 62, 67, 86, 94, 97, 115, 120, 123] [.tmp 6] mixed Tryz.func4 rfl (by kernel_rfl) ok4 (Nat.le_of_ble_eq_true rfl) rfl (by decide) (by kernel_rfl) H
theorem ok5 : codeOk Tryz.prog [] Tryz.f5.ntmps (Tryz.f5.body.getD .skip) = true := by kernel_rfl
theorem in5 {a0 a1 a2 a3 : AV} {h : Heap} {nx : Nat} {K : AV → Heap → Nat → Prop} (H : aw Tryz.prog (tiOf Tryz.prog) [] [0, 1, 2, 3, 4, 8, 9, 10, 11, 12, 13, 14, 15, 16, 17, 18, 19, 20, 25, 30, 61, 66, 71, 90, 98, 101, 120, 125, 128] (Tryz.f5.body.getD .skip) (postA (tiOf Tryz.prog) #[.tmp 8] K) ⟨E [(0, a0), (1, a1), (2, a2), (3, a3)], h, nx, 129⟩) :
    CallsA Tryz.prog 5 [a0, a1, a2, a3] h nx K := CallsA.intro [] [0, 1, 2, 3, 4, 8, 9, 10, 11, 12, 13, 14, 15, 16, 17, 18, 19, 20, 25, 30, 61, 66, 71, 90, 98, 101, 120, 125, 128] [.tmp 8] mixed Tryz.func5 rfl (by kernel_rfl) ok5 (Nat.le_of_ble_eq_true rfl) rfl (by decide) (by kernel_rfl) H
theorem ok6 : codeOk Tryz.prog [] Tryz.f6.ntmps (Tryz.f6.body.getD .skip) = true := by kernel_rfl
theorem in6 {a0 a1 a2 : AV} {h : Heap} {nx : Nat} {K : AV → Heap → Nat → Prop} (H : aw Tryz.prog (tiOf Tryz.prog) [] [0, 1, 2, 3, 6, 7, 8, 9, 10, 11, 12, 13, 14, 15, 16, 17, 18, 23, 28, 57, 62, 67, 86, 94, 97, 115, 120, 123] (Tryz.f6.body.getD .skip) (postA (tiOf Tryz.prog) #[.tmp 6] K) ⟨E [(0, a0), (1, a1), (2, a2)], h, nx, 124⟩) :
    CallsA Tryz.prog 6 [a0, a1, a2] h nx K := CallsA.intro [] [0, 1, 2, 3, 6, 7, 8, 9, 10, 11, 12, 13, 14, 15, 16, 17, 18, 23, 28, 57, 62, 67, 86, 94, 97, 115, 120, 123] [.tmp 6] mixed Tryz.func6 rfl (by kernel_rfl) ok6 (Nat.le_of_ble_eq_true rfl) rfl (by decide) (by kernel_rfl) H
theorem ok7 : codeOk Tryz.prog [] Tryz.f7.ntmps (Tryz.f7.body.getD .skip) = true := by kernel_rfl
theorem in7 {a0 a1 a2 : AV} {h : Heap} {nx : Nat} {K : AV → Heap → Nat → Prop} (H : aw Tryz.prog (tiOf Tryz.prog) [] [0, 1, 2, 3, 6, 7, 8, 9, 10, 11, 12, 13, 14, 15, 16, 17, 18, 23, 28, 57, 62, 67, 86, 94, 97, 115, 120, 123] (Tryz.f7.body.getD .skip) (postA (tiOf Tryz.prog) #[.tmp 6] K) ⟨E [(0, a0), (1, a1), (2, a2)], h, nx, 124⟩) :
    CallsA Tryz.prog 7 [a0, a1, a2] h nx K := CallsA.intro [] [0, 1, 2, 3, 6, 7, 8, 9, 10, 11, 12, 13, 14, 15, 16, 17, 18, 23, 28, 57, 62, 67, 86, 94, 97, 115, 120, 123] [.tmp 6] mixed Tryz.func7 rfl (by kernel_rfl) ok7 (Nat.le_of_ble_eq_true rfl) rfl (by decide) (by kernel_rfl) H
theorem ok8 : codeOk Tryz.prog [] Tryz.f8.ntmps (Tryz.f8.body.getD .skip) = true := by kernel_rfl
theorem in8 {a0 a1 : AV} {h : Heap} {nx : Nat} {K : AV → Heap → Nat → Prop} (H : aw Tryz.prog (tiOf Tryz.prog) [] [0, 1, 2, 4, 10] (Tryz.f8.body.getD .skip) (postA (tiOf Tryz.prog) #[.tmp 4] K) ⟨E [(0, a0), (1, a1)], h, nx, 12⟩) :
    CallsA Tryz.prog 8 [a0, a1] h nx K := CallsA.intro [] [0, 1, 2, 4, 10] [.tmp 4] mixed Tryz.func8 rfl (by kernel_rfl) ok8 (Nat.le_of_ble_eq_true rfl) rfl (by decide) (by kernel_rfl) H
theorem ok9 : codeOk Tryz.prog [] Tryz.f9.ntmps (Tryz.f9.body.getD .skip) = true := by kernel_rfl
theorem in9 {a0 a1 : AV} {h : Heap} {nx : Nat} {K : AV → Heap → Nat → Prop} (H : aw Tryz.prog (tiOf Tryz.prog) [] [0, 1, 4, 5, 11, 15, 25] (Tryz.f9.body.getD .skip) (postA (tiOf Tryz.prog) #[.tmp 4] K) ⟨E [(0, a0), (1, a1)], h, nx, 27⟩) :
    CallsA Tryz.prog 9 [a0, a1] h nx K := CallsA.intro [] [0, 1, 4, 5, 11, 15, 25] [.tmp 4] mixed Tryz.func9 rfl (by kernel_rfl) ok9 (Nat.le_of_ble_eq_true rfl) rfl (by decide) (by kernel_rfl) H
theorem ok10 : codeOk Tryz.prog [] Tryz.f10.ntmps (Tryz.f10.body.getD .skip) = true := by kernel_rfl
theorem in10 {a0 a1 a2 : AV} {h : Heap} {nx : Nat} {K : AV → Heap → Nat → Prop} (H : aw Tryz.prog (tiOf Tryz.prog) [] [0, 1, 2, 3, 6, 7, 23] (Tryz.f10.body.getD .skip) (postA (tiOf Tryz.prog) #[.tmp 6, .tmp 7] K) ⟨E [(0, a0), (1, a1), (2, a2)], h, nx, 32⟩) :
    CallsA Tryz.prog 10 [a0, a1, a2] h nx K := CallsA.intro [] [0, 1, 2, 3, 6, 7, 23] [.tmp 6, .tmp 7] mixed Tryz.func10 rfl (by kernel_rfl) ok10 (Nat.le_of_ble_eq_true rfl) rfl (by decide) (by kernel_rfl) H
theorem ok11 : codeOk Tryz.prog [] Tryz.f11.ntmps (Tryz.f11.body.getD .skip) = true := by kernel_rfl
theorem in11 {a0 : AV} {h : Heap} {nx : Nat} {K : AV → Heap → Nat → Prop} (H : aw Tryz.prog (tiOf Tryz.prog) [] [0, 1, 2, 3] (Tryz.f11.body.getD .skip) (postA (tiOf Tryz.prog) #[.cell 2 31] K) ⟨E [(0, a0)], h, nx, 12⟩) :
    CallsA Tryz.prog 11 [a0] h nx K := CallsA.intro [] [0, 1, 2, 3] [.cell 2 31] mixed Tryz.func11 rfl (by kernel_rfl) ok11 (Nat.le_of_ble_eq_true rfl) rfl (by decide) (by kernel_rfl) H
theorem ok12 : codeOk Tryz.prog [] Tryz.f12.ntmps (Tryz.f12.body.getD .skip) = true := by kernel_rfl
theorem in12 {a0 : AV} {h : Heap} {nx : Nat} {K : AV → Heap → Nat → Prop} (H : aw Tryz.prog (tiOf Tryz.prog) [] [0, 2, 3, 4, 11] (Tryz.f12.body.getD .skip) (postA (tiOf Tryz.prog) #[.tmp 2] K) ⟨E [(0, a0)], h, nx, 23⟩) :
    CallsA Tryz.prog 12 [a0] h nx K := CallsA.intro [] [0, 2, 3, 4, 11] [.tmp 2] mixed Tryz.func12 rfl (by kernel_rfl) ok12 (Nat.le_of_ble_eq_true rfl) rfl (by decide) (by kernel_rfl) H
theorem ok13 : codeOk Tryz.prog [(0, 3), (4, 0)] Tryz.f13.ntmps (Tryz.f13.body.getD .skip) = true := by kernel_rfl
theorem in13 {a0 a1 a2 : AV} {h : Heap} {nx : Nat} {K : AV → Heap → Nat → Prop} (H : aw Tryz.prog (tiOf Tryz.prog) [(0, 3), (4, 0)] [0, 1, 2, 3, 6, 7, 8, 17] (Tryz.f13.body.getD .skip) (postA (tiOf Tryz.prog) #[.tmp 6, .tmp 7] K) ⟨E [(0, a0), (1, a1), (2, a2)], h, nx, 25⟩) :
    CallsA Tryz.prog 13 [a0, a1, a2] h nx K := CallsA.intro [(0, 3), (4, 0)] [0, 1, 2, 3, 6, 7, 8, 17] [.tmp 6, .tmp 7] mixed Tryz.func13 rfl (by kernel_rfl) ok13 (Nat.le_of_ble_eq_true rfl) rfl (by decide) (by kernel_rfl) H
theorem ok14 : codeOk Tryz.prog [] Tryz.f14.ntmps (Tryz.f14.body.getD .skip) = true := by kernel_rfl
theorem in14 {a0 a1 : AV} {h : Heap} {nx : Nat} {K : AV → Heap → Nat → Prop} (H : aw Tryz.prog (tiOf Tryz.prog) [] [0, 1, 4, 5, 10, 14, 26] (Tryz.f14.body.getD .skip) (postA (tiOf Tryz.prog) #[.tmp 4] K) ⟨E [(0, a0), (1, a1)], h, nx, 27⟩) :
    CallsA Tryz.prog 14 [a0, a1] h nx K := CallsA.intro [] [0, 1, 4, 5, 10, 14, 26] [.tmp 4] mixed Tryz.func14 rfl (by kernel_rfl) ok14 (Nat.le_of_ble_eq_true rfl) rfl (by decide) (by kernel_rfl) H
theorem ok15 : codeOk Tryz.prog [] Tryz.f15.ntmps (Tryz.f15.body.getD .skip) = true := by kernel_rfl
theorem in15 {a0 a1 : AV} {h : Heap} {nx : Nat} {K : AV → Heap → Nat → Prop} (H : aw Tryz.prog (tiOf Tryz.prog) [] [0, 1, 2, 3, 4, 9, 15] (Tryz.f15.body.getD .skip) (postA (tiOf Tryz.prog) #[.tmp 4] K) ⟨E [(0, a0), (1, a1)], h, nx, 16⟩) :
    CallsA Tryz.prog 15 [a0, a1] h nx K := CallsA.intro [] [0, 1, 2, 3, 4, 9, 15] [.tmp 4] mixed Tryz.func15 rfl (by kernel_rfl) ok15 (Nat.le_of_ble_eq_true rfl) rfl (by decide) (by kernel_rfl) H
theorem ok16 : codeOk Tryz.prog [] Tryz.f16.ntmps (Tryz.f16.body.getD .skip) = true := by kernel_rfl
theorem in16 {a0 a1 : AV} {h : Heap} {nx : Nat} {K : AV → Heap → Nat → Prop} (H : aw Tryz.prog (tiOf Tryz.prog) [] [0, 1, 4, 5, 10, 14, 26] (Tryz.f16.body.getD .skip) (postA (tiOf Tryz.prog) #[.tmp 4] K) ⟨E [(0, a0), (1, a1)], h, nx, 27⟩) :
    CallsA Tryz.prog 16 [a0, a1] h nx K := CallsA.intro [] [0, 1, 4, 5, 10, 14, 26] [.tmp 4] mixed Tryz.func16 rfl (by kernel_rfl) ok16 (Nat.le_of_ble_eq_true rfl) rfl (by decide) (by kernel_rfl) H
theorem ok17 : codeOk Tryz.prog [] Tryz.f17.ntmps (Tryz.f17.body.getD .skip) = true := by kernel_rfl
theorem in17 {a0 a1 : AV} {h : Heap} {nx : Nat} {K : AV → Heap → Nat → Prop} (H : aw Tryz.prog (tiOf Tryz.prog) [] [0, 1, 2, 4] (Tryz.f17.body.getD .skip) (postA (tiOf Tryz.prog) #[.tmp 4] K) ⟨E [(0, a0), (1, a1)], h, nx, 10⟩) :
    CallsA Tryz.prog 17 [a0, a1] h nx K := CallsA.intro [] [0, 1, 2, 4] [.tmp 4] mixed Tryz.func17 rfl (by kernel_rfl) ok17 (Nat.le_of_ble_eq_true rfl) rfl (by decide) (by kernel_rfl) H
theorem ok18 : codeOk Tryz.prog [] Tryz.f18.ntmps (Tryz.f18.body.getD .skip) = true := by kernel_rfl
theorem in18 {a0 a1 : AV} {h : Heap} {nx : Nat} {K : AV → Heap → Nat → Prop} (H : aw Tryz.prog (tiOf Tryz.prog) [] [0, 1, 4, 5, 9] (Tryz.f18.body.getD .skip) (postA (tiOf Tryz.prog) #[.tmp 4] K) ⟨E [(0, a0), (1, a1)], h, nx, 41⟩) :
    CallsA Tryz.prog 18 [a0, a1] h nx K := CallsA.intro [] [0, 1, 4, 5, 9] [.tmp 4] mixed Tryz.func18 rfl (by kernel_rfl) ok18 (Nat.le_of_ble_eq_true rfl) rfl (by decide) (by kernel_rfl) H
theorem ok19 : codeOk Tryz.prog [] Tryz.f19.ntmps (Tryz.f19.body.getD .skip) = true := by kernel_rfl
theorem in19 {a0 a1 : AV} {h : Heap} {nx : Nat} {K : AV → Heap → Nat → Prop} (H : aw Tryz.prog (tiOf Tryz.prog) [] [0, 1, 4, 5, 9] (Tryz.f19.body.getD .skip) (postA (tiOf Tryz.prog) #[.tmp 4] K) ⟨E [(0, a0), (1, a1)], h, nx, 34⟩) :
    CallsA Tryz.prog 19 [a0, a1] h nx K := CallsA.intro [] [0, 1, 4, 5, 9] [.tmp 4] mixed Tryz.func19 rfl (by kernel_rfl) ok19 (Nat.le_of_ble_eq_true rfl) rfl (by decide) (by kernel_rfl) H
theorem ok20 : codeOk Tryz.prog [] Tryz.f20.ntmps (Tryz.f20.body.getD .skip) = true := by kernel_rfl
theorem in20 {a0 a1 : AV} {h : Heap} {nx : Nat} {K : AV → Heap → Nat → Prop} (H : aw Tryz.prog (tiOf Tryz.prog) [] [0, 1, 4, 5, 9, 18, 27, 36] (Tryz.f20.body.getD .skip) (postA (tiOf Tryz.prog) #[.tmp 4] K) ⟨E [(0, a0), (1, a1)], h, nx, 40⟩) :
    CallsA Tryz.prog 20 [a0, a1] h nx K := CallsA.intro [] [0, 1, 4, 5, 9, 18, 27, 36] [.tmp 4] mixed Tryz.func20 rfl (by kernel_rfl) ok20 (Nat.le_of_ble_eq_true rfl) rfl (by decide) (by kernel_rfl) H
theorem ok21 : codeOk Tryz.prog [] Tryz.f21.ntmps (Tryz.f21.body.getD .skip) = true := by kernel_rfl
theorem in21 {a0 a1 a2 : AV} {h : Heap} {nx : Nat} {K : AV → Heap → Nat → Prop} (H : aw Tryz.prog (tiOf Tryz.prog) [] [0, 1, 2, 3, 6, 7, 23] (Tryz.f21.body.getD .skip) (postA (tiOf Tryz.prog) #[.tmp 6, .tmp 7] K) ⟨E [(0, a0), (1, a1), (2, a2)], h, nx, 32⟩) :
    CallsA Tryz.prog 21 [a0, a1, a2] h nx K := CallsA.intro [] [0, 1, 2, 3, 6, 7, 23] [.tmp 6, .tmp 7] mixed Tryz.func21 rfl (by kernel_rfl) ok21 (Nat.le_of_ble_eq_true rfl) rfl (by decide) (by kernel_rfl) H
theorem ok22 : codeOk Tryz.prog [(0, 3), (4, 0)] Tryz.f22.ntmps (Tryz.f22.body.getD .skip) = true := by kernel_rfl
theorem in22 {a0 a1 a2 : AV} {h : Heap} {nx : Nat} {K : AV → Heap → Nat → Prop} (H : aw Tryz.prog (tiOf Tryz.prog) [(0, 3), (4, 0)] [0, 1, 2, 3, 6, 7, 8, 17] (Tryz.f22.body.getD .skip) (postA (tiOf Tryz.prog) #[.tmp 6, .tmp 7] K) ⟨E [(0, a0), (1, a1), (2, a2)], h, nx, 25⟩) :
    CallsA Tryz.prog 22 [a0, a1, a2] h nx K := CallsA.intro [(0, 3), (4, 0)] [0, 1, 2, 3, 6, 7, 8, 17] [.tmp 6, .tmp 7] mixed Tryz.func22 rfl (by kernel_rfl) ok22 (Nat.le_of_ble_eq_true rfl) rfl (by decide) (by kernel_rfl) H
theorem ok23 : codeOk Tryz.prog [] Tryz.f23.ntmps (Tryz.f23.body.getD .skip) = true := by kernel_rfl
theorem in23 {a0 a1 a2 a3 : AV} {h : Heap} {nx : Nat} {K : AV → Heap → Nat → Prop} (H : aw Tryz.prog (tiOf Tryz.prog) [] [0, 1, 2, 3, 4, 8, 9, 10, 11, 12, 13, 14, 30, 41] (Tryz.f23.body.getD .skip) (postA (tiOf Tryz.prog) #[.tmp 8, .tmp 9] K) ⟨E [(0, a0), (1, a1), (2, a2), (3, a3)], h, nx, 56⟩) :
    CallsA Tryz.prog 23 [a0, a1, a2, a3] h nx K := CallsA.intro [] [0, 1, 2, 3, 4, 8, 9, 10, 11, 12, 13, 14, 30, 41] [.tmp 8, .tmp 9] mixed Tryz.func23 rfl (by kernel_rfl) ok23 (Nat.le_of_ble_eq_true rfl) rfl (by decide) (by kernel_rfl) H
theorem ok24 : codeOk Tryz.prog [] Tryz.f24.ntmps (Tryz.f24.body.getD .skip) = true := by kernel_rfl
theorem in24 {a0 a1 a2 a3 : AV} {h : Heap} {nx : Nat} {K : AV → Heap → Nat → Prop} (H : aw Tryz.prog (tiOf Tryz.prog) [] [0, 1, 2, 3, 4, 8, 9, 10, 11, 12, 13, 15, 31, 41, 42, 43, 44] (Tryz.f24.body.getD .skip) (postA (tiOf Tryz.prog) #[.tmp 8, .tmp 9] K) ⟨E [(0, a0), (1, a1), (2, a2), (3, a3)], h, nx, 56⟩) :
    CallsA Tryz.prog 24 [a0, a1, a2, a3] h nx K := CallsA.intro [] [0, 1, 2, 3, 4, 8, 9, 10, 11, 12, 13, 15, 31, 41, 42, 43, 44] [.tmp 8, .tmp 9] mixed Tryz.func24 rfl (by kernel_rfl) ok24 (Nat.le_of_ble_eq_true rfl) rfl (by decide) (by kernel_rfl) H
theorem ok25 : codeOk Tryz.prog [] Tryz.f25.ntmps (Tryz.f25.body.getD .skip) = true := by kernel_rfl
theorem in25 {a0 a1 : AV} {h : Heap} {nx : Nat} {K : AV → Heap → Nat → Prop} (H : aw Tryz.prog (tiOf Tryz.prog) [] [0, 1, 4, 5, 10, 14, 25] (Tryz.f25.body.getD .skip) (postA (tiOf Tryz.prog) #[.tmp 4] K) ⟨E [(0, a0), (1, a1)], h, nx, 26⟩) :
    CallsA Tryz.prog 25 [a0, a1] h nx K := CallsA.intro [] [0, 1, 4, 5, 10, 14, 25] [.tmp 4] mixed Tryz.func25 rfl (by kernel_rfl) ok25 (Nat.le_of_ble_eq_true rfl) rfl (by decide) (by kernel_rfl) H
theorem ok26 : codeOk Tryz.prog [] Tryz.f26.ntmps (Tryz.f26.body.getD .skip) = true := by kernel_rfl
theorem in26 {a0 a1 : AV} {h : Heap} {nx : Nat} {K : AV → Heap → Nat → Prop} (H : aw Tryz.prog (tiOf Tryz.prog) [] [0, 1, 4, 5, 9] (Tryz.f26.body.getD .skip) (postA (tiOf Tryz.prog) #[.tmp 4] K) ⟨E [(0, a0), (1, a1)], h, nx, 21⟩) :
    CallsA Tryz.prog 26 [a0, a1] h nx K := CallsA.intro [] [0, 1, 4, 5, 9] [.tmp 4] mixed Tryz.func26 rfl (by kernel_rfl) ok26 (Nat.le_of_ble_eq_true rfl) rfl (by decide) (by kernel_rfl) H
theorem ok27 : codeOk Tryz.prog [] Tryz.f27.ntmps (Tryz.f27.body.getD .skip) = true := by kernel_rfl
theorem in27 {a0 a1 : AV} {h : Heap} {nx : Nat} {K : AV → Heap → Nat → Prop} (H : aw Tryz.prog (tiOf Tryz.prog) [] [0, 1, 4, 5, 9, 19] (Tryz.f27.body.getD .skip) (postA (tiOf Tryz.prog) #[.tmp 4] K) ⟨E [(0, a0), (1, a1)], h, nx, 23⟩) :
    CallsA Tryz.prog 27 [a0, a1] h nx K := CallsA.intro [] [0, 1, 4, 5, 9, 19] [.tmp 4] mixed Tryz.func27 rfl (by kernel_rfl) ok27 (Nat.le_of_ble_eq_true rfl) rfl (by decide) (by kernel_rfl) H
theorem ok28 : codeOk Tryz.prog [] Tryz.f28.ntmps (Tryz.f28.body.getD .skip) = true := by kernel_rfl
theorem in28 {a0 a1 a2 : AV} {h : Heap} {nx : Nat} {K : AV → Heap → Nat → Prop} (H : aw Tryz.prog (tiOf Tryz.prog) [] [0, 1, 2, 3, 6, 7] (Tryz.f28.body.getD .skip) (postA (tiOf Tryz.prog) #[.tmp 6, .tmp 7] K) ⟨E [(0, a0), (1, a1), (2, a2)], h, nx, 14⟩) :
    CallsA Tryz.prog 28 [a0, a1, a2] h nx K := CallsA.intro [] [0, 1, 2, 3, 6, 7] [.tmp 6, .tmp 7] mixed Tryz.func28 rfl (by kernel_rfl) ok28 (Nat.le_of_ble_eq_true rfl) rfl (by decide) (by kernel_rfl) H
theorem ok29 : codeOk Tryz.prog [(0, 3), (1, 0)] Tryz.f29.ntmps (Tryz.f29.body.getD .skip) = true := by kernel_rfl
theorem in29 {a0 a1 a2 : AV} {h : Heap} {nx : Nat} {K : AV → Heap → Nat → Prop} (H : aw Tryz.prog (tiOf Tryz.prog) [(0, 3), (1, 0)] [0, 1, 2, 3, 6, 7] (Tryz.f29.body.getD .skip) (postA (tiOf Tryz.prog) #[.tmp 6, .tmp 7] K) ⟨E [(0, a0), (1, a1), (2, a2)], h, nx, 15⟩) :
    CallsA Tryz.prog 29 [a0, a1, a2] h nx K := CallsA.intro [(0, 3), (1, 0)] [0, 1, 2, 3, 6, 7] [.tmp 6, .tmp 7] mixed Tryz.func29 rfl (by kernel_rfl) ok29 (Nat.le_of_ble_eq_true rfl) rfl (by decide) (by kernel_rfl) H
theorem ok30 : codeOk Tryz.prog [] Tryz.f30.ntmps (Tryz.f30.body.getD .skip) = true := by kernel_rfl
theorem in30 {a0 a1 a2 : AV} {h : Heap} {nx : Nat} {K : AV → Heap → Nat → Prop} (H : aw Tryz.prog (tiOf Tryz.prog) [] [0, 1, 2, 3, 6, 7] (Tryz.f30.body.getD .skip) (postA (tiOf Tryz.prog) #[.tmp 6, .tmp 7] K) ⟨E [(0, a0), (1, a1), (2, a2)], h, nx, 14⟩) :
    CallsA Tryz.prog 30 [a0, a1, a2] h nx K := CallsA.intro [] [0, 1, 2, 3, 6, 7] [.tmp 6, .tmp 7] mixed Tryz.func30 rfl (by kernel_rfl) ok30 (Nat.le_of_ble_eq_true rfl) rfl (by decide) (by kernel_rfl) H
theorem ok31 : codeOk Tryz.prog [(0, 3), (1, 0)] Tryz.f31.ntmps (Tryz.f31.body.getD .skip) = true := by kernel_rfl
theorem in31 {a0 a1 a2 : AV} {h : Heap} {nx : Nat} {K : AV → Heap → Nat → Prop} (H : aw Tryz.prog (tiOf Tryz.prog) [(0, 3), (1, 0)] [0, 1, 2, 3, 6, 7] (Tryz.f31.body.getD .skip) (postA (tiOf Tryz.prog) #[.tmp 6, .tmp 7] K) ⟨E [(0, a0), (1, a1), (2, a2)], h, nx, 15⟩) :
    CallsA Tryz.prog 31 [a0, a1, a2] h nx K := CallsA.intro [(0, 3), (1, 0)] [0, 1, 2, 3, 6, 7] [.tmp 6, .tmp 7] mixed Tryz.func31 rfl (by kernel_rfl) ok31 (Nat.le_of_ble_eq_true rfl) rfl (by decide) (by kernel_rfl) H
theorem ok32 : codeOk Tryz.prog [] Tryz.f32.ntmps (Tryz.f32.body.getD .skip) = true := by kernel_rfl
theorem in32 {a0 a1 : AV} {h : Heap} {nx : Nat} {K : AV → Heap → Nat → Prop} (H : aw Tryz.prog (tiOf Tryz.prog) [] [0, 1, 4, 5, 11, 15, 25] (Tryz.f32.body.getD .skip) (postA (tiOf Tryz.prog) #[.tmp 4] K) ⟨E [(0, a0), (1, a1)], h, nx, 27⟩) :
    CallsA Tryz.prog 32 [a0, a1] h nx K := CallsA.intro [] [0, 1, 4, 5, 11, 15, 25] [.tmp 4] mixed Tryz.func32 rfl (by kernel_rfl) ok32 (Nat.le_of_ble_eq_true rfl) rfl (by decide) (by kernel_rfl) H
theorem ok33 : codeOk Tryz.prog [] Tryz.f33.ntmps (Tryz.f33.body.getD .skip) = true := by kernel_rfl
theorem in33 {a0 a1 : AV} {h : Heap} {nx : Nat} {K : AV → Heap → Nat → Prop} (H : aw Tryz.prog (tiOf Tryz.prog) [] [0, 1, 2, 4, 10] (Tryz.f33.body.getD .skip) (postA (tiOf Tryz.prog) #[.tmp 4] K) ⟨E [(0, a0), (1, a1)], h, nx, 12⟩) :
    CallsA Tryz.prog 33 [a0, a1] h nx K := CallsA.intro [] [0, 1, 2, 4, 10] [.tmp 4] mixed Tryz.func33 rfl (by kernel_rfl) ok33 (Nat.le_of_ble_eq_true rfl) rfl (by decide) (by kernel_rfl) H
theorem ok34 : codeOk Tryz.prog [] Tryz.f34.ntmps (Tryz.f34.body.getD .skip) = true := by kernel_rfl
theorem in34 {a0 a1 : AV} {h : Heap} {nx : Nat} {K : AV → Heap → Nat → Prop} (H : aw Tryz.prog (tiOf Tryz.prog) [] [0, 1, 2, 4] (Tryz.f34.body.getD .skip) (postA (tiOf Tryz.prog) #[.tmp 4] K) ⟨E [(0, a0), (1, a1)], h, nx, 14⟩) :
    CallsA Tryz.prog 34 [a0, a1] h nx K := CallsA.intro [] [0, 1, 2, 4] [.tmp 4] mixed Tryz.func34 rfl (by kernel_rfl) ok34 (Nat.le_of_ble_eq_true rfl) rfl (by decide) (by kernel_rfl) H
theorem ok35 : codeOk Tryz.prog [] Tryz.f35.ntmps (Tryz.f35.body.getD .skip) = true := by kernel_rfl
theorem in35 {a0 a1 : AV} {h : Heap} {nx : Nat} {K : AV → Heap → Nat → Prop} (H : aw Tryz.prog (tiOf Tryz.prog) [] [0, 1, 2, 4, 7] (Tryz.f35.body.getD .skip) (postA (tiOf Tryz.prog) #[.tmp 4] K) ⟨E [(0, a0), (1, a1)], h, nx, 22⟩) :
    CallsA Tryz.prog 35 [a0, a1] h nx K := CallsA.intro [] [0, 1, 2, 4, 7] [.tmp 4] mixed Tryz.func35 rfl (by kernel_rfl) ok35 (Nat.le_of_ble_eq_true rfl) rfl (by decide) (by kernel_rfl) H
theorem ok36 : codeOk Tryz.prog [] Tryz.f36.ntmps (Tryz.f36.body.getD .skip) = true := by kernel_rfl
theorem in36 {a0 a1 : AV} {h : Heap} {nx : Nat} {K : AV → Heap → Nat → Prop} (H : aw Tryz.prog (tiOf Tryz.prog) [] [0, 1, 2, 4] (Tryz.f36.body.getD .skip) (postA (tiOf Tryz.prog) #[.tmp 4] K) ⟨E [(0, a0), (1, a1)], h, nx, 19⟩) :
    CallsA Tryz.prog 36 [a0, a1] h nx K := CallsA.intro [] [0, 1, 2, 4] [.tmp 4] mixed Tryz.func36 rfl (by kernel_rfl) ok36 (Nat.le_of_ble_eq_true rfl) rfl (by decide) (by kernel_rfl) H
theorem ok37 : codeOk Tryz.prog [] Tryz.f37.ntmps (Tryz.f37.body.getD .skip) = true := by kernel_rfl
theorem in37 {a0 : AV} {h : Heap} {nx : Nat} {K : AV → Heap → Nat → Prop} (H : aw Tryz.prog (tiOf Tryz.prog) [] [0, 2, 3, 6] (Tryz.f37.body.getD .skip) (postA (tiOf Tryz.prog) #[.tmp 2, .tmp 3] K) ⟨E [(0, a0)], h, nx, 9⟩) :
    CallsA Tryz.prog 37 [a0] h nx K := CallsA.intro [] [0, 2, 3, 6] [.tmp 2, .tmp 3] mixed Tryz.func37 rfl (by kernel_rfl) ok37 (Nat.le_of_ble_eq_true rfl) rfl (by decide) (by kernel_rfl) H
theorem ok38 : codeOk Tryz.prog [(17, 11), (19, 11)] Tryz.f38.ntmps (Tryz.f38.body.getD .skip) = true := by kernel_rfl
theorem in38 {a0 a1 a2 a3 : AV} {h : Heap} {nx : Nat} {K : AV → Heap → Nat → Prop} (H : aw Tryz.prog (tiOf Tryz.prog) [(17, 11), (19, 11)] [0, 1, 2, 3, 4, 8, 9, 10, 11, 12, 13, 14, 25, 64, 75, 80, 92, 107, 122, 156] (Tryz.f38.body.getD .skip) (postA (tiOf Tryz.prog) #[.tmp 8] K) ⟨E [(0, a0), (1, a1), (2, a2), (3, a3)], h, nx, 167⟩) :
    CallsA Tryz.prog 38 [a0, a1, a2, a3] h nx K := CallsA.intro [(17, 11), (19, 11)] [0, 1, 2, 3, 4, 8, 9, 10, 11, 12, 13, 14, 25, 64, 75, 80, 92, 107, 122, 156] [.tmp 8] mixed Tryz.func38 rfl (by kernel_rfl) ok38 (Nat.le_of_ble_eq_true rfl) rfl (by decide) (by kernel_rfl) H
theorem ok39 : codeOk Tryz.prog [] Tryz.f39.ntmps (Tryz.f39.body.getD .skip) = true := by kernel_rfl
theorem in39 {a0 : AV} {h : Heap} {nx : Nat} {K : AV → Heap → Nat → Prop} (H : aw Tryz.prog (tiOf Tryz.prog) [] [0, 2, 3, 4, 11] (Tryz.f39.body.getD .skip) (postA (tiOf Tryz.prog) #[.tmp 2] K) ⟨E [(0, a0)], h, nx, 23⟩) :
    CallsA Tryz.prog 39 [a0] h nx K := CallsA.intro [] [0, 2, 3, 4, 11] [.tmp 2] mixed Tryz.func39 rfl (by kernel_rfl) ok39 (Nat.le_of_ble_eq_true rfl) rfl (by decide) (by kernel_rfl) H
theorem ok40 : codeOk Tryz.prog [] Tryz.f40.ntmps (Tryz.f40.body.getD .skip) = true := by kernel_rfl
theorem in40 {a0 : AV} {h : Heap} {nx : Nat} {K : AV → Heap → Nat → Prop} (H : aw Tryz.prog (tiOf Tryz.prog) [] [0, 1, 2, 3] (Tryz.f40.body.getD .skip) (postA (tiOf Tryz.prog) #[.cell 2 58] K) ⟨E [(0, a0)], h, nx, 18⟩) :
    CallsA Tryz.prog 40 [a0] h nx K := CallsA.intro [] [0, 1, 2, 3] [.cell 2 58] mixed Tryz.func40 rfl (by kernel_rfl) ok40 (Nat.le_of_ble_eq_true rfl) rfl (by decide) (by kernel_rfl) H
theorem ok41 : codeOk Tryz.prog [] Tryz.f41.ntmps (Tryz.f41.body.getD .skip) = true := by kernel_rfl
theorem in41 {a0 a1 : AV} {h : Heap} {nx : Nat} {K : AV → Heap → Nat → Prop} (H : aw Tryz.prog (tiOf Tryz.prog) [] [0, 1, 2, 4, 5, 6, 7, 15] (Tryz.f41.body.getD .skip) (postA (tiOf Tryz.prog) #[.tmp 4, .tmp 5] K) ⟨E [(0, a0), (1, a1)], h, nx, 20⟩) :
    CallsA Tryz.prog 41 [a0, a1] h nx K := CallsA.intro [] [0, 1, 2, 4, 5, 6, 7, 15] [.tmp 4, .tmp 5] mixed Tryz.func41 rfl (by kernel_rfl) ok41 (Nat.le_of_ble_eq_true rfl) rfl (by decide) (by kernel_rfl) H
theorem ok42 : codeOk Tryz.prog [] Tryz.f42.ntmps (Tryz.f42.body.getD .skip) = true := by kernel_rfl
theorem in42 {a0 a1 a2 a3 : AV} {h : Heap} {nx : Nat} {K : AV → Heap → Nat → Prop} (H : aw Tryz.prog (tiOf Tryz.prog) [] [0, 1, 2, 3, 4, 7, 8, 9, 10, 11, 25] (Tryz.f42.body.getD .skip) (postA (tiOf Tryz.prog) #[.tmp 8, .tmp 9] K) ⟨E [(0, a0), (1, a1), (2, a2), (3, a3)], h, nx, 33⟩) :
    CallsA Tryz.prog 42 [a0, a1, a2, a3] h nx K := CallsA.intro [] [0, 1, 2, 3, 4, 7, 8, 9, 10, 11, 25] [.tmp 8, .tmp 9] mixed Tryz.func42 rfl (by kernel_rfl) ok42 (Nat.le_of_ble_eq_true rfl) rfl (by decide) (by kernel_rfl) H
theorem ok43 : codeOk Tryz.prog [] Tryz.f43.ntmps (Tryz.f43.body.getD .skip) = true := by kernel_rfl
theorem in43 {h : Heap} {nx : Nat} {K : AV → Heap → Nat → Prop} (H : aw Tryz.prog (tiOf Tryz.prog) [] [0] (Tryz.f43.body.getD .skip) (postA (tiOf Tryz.prog) #[.cell 0 66] K) ⟨E [], h, nx, 2⟩) :
    CallsA Tryz.prog 43 [] h nx K := CallsA.intro [] [0] [.cell 0 66] mixed Tryz.func43 rfl (by kernel_rfl) ok43 (Nat.le_of_ble_eq_true rfl) rfl (by decide) (by kernel_rfl) H
theorem ok44 : codeOk Tryz.prog [] Tryz.f44.ntmps (Tryz.f44.body.getD .skip) = true := by kernel_rfl
theorem in44 {a0 a1 : AV} {h : Heap} {nx : Nat} {K : AV → Heap → Nat → Prop} (H : aw Tryz.prog (tiOf Tryz.prog) [] [0, 1, 2, 3, 4, 9, 14, 19] (Tryz.f44.body.getD .skip) (postA (tiOf Tryz.prog) #[.tmp 4] K) ⟨E [(0, a0), (1, a1)], h, nx, 20⟩) :
    CallsA Tryz.prog 44 [a0, a1] h nx K := CallsA.intro [] [0, 1, 2, 3, 4, 9, 14, 19] [.tmp 4] mixed Tryz.func44 rfl (by kernel_rfl) ok44 (Nat.le_of_ble_eq_true rfl) rfl (by decide) (by kernel_rfl) H
theorem ok45 : codeOk Tryz.prog [] Tryz.f45.ntmps (Tryz.f45.body.getD .skip) = true := by kernel_rfl
theorem in45 {a0 a1 : AV} {h : Heap} {nx : Nat} {K : AV → Heap → Nat → Prop} (H : aw Tryz.prog (tiOf Tryz.prog) [] [0, 1, 4, 5, 10, 14, 26] (Tryz.f45.body.getD .skip) (postA (tiOf Tryz.prog) #[.tmp 4] K) ⟨E [(0, a0), (1, a1)], h, nx, 27⟩) :
    CallsA Tryz.prog 45 [a0, a1] h nx K := CallsA.intro [] [0, 1, 4, 5, 10, 14, 26] [.tmp 4] mixed Tryz.func45 rfl (by kernel_rfl) ok45 (Nat.le_of_ble_eq_true rfl) rfl (by decide) (by kernel_rfl) H
theorem ok46 : codeOk Tryz.prog [] Tryz.f46.ntmps (Tryz.f46.body.getD .skip) = true := by kernel_rfl
theorem in46 {a0 a1 : AV} {h : Heap} {nx : Nat} {K : AV → Heap → Nat → Prop} (H : aw Tryz.prog (tiOf Tryz.prog) [] [0, 1, 2, 3, 4, 10, 15, 20, 25] (Tryz.f46.body.getD .skip) (postA (tiOf Tryz.prog) #[.tmp 4] K) ⟨E [(0, a0), (1, a1)], h, nx, 26⟩) :
    CallsA Tryz.prog 46 [a0, a1] h nx K := CallsA.intro [] [0, 1, 2, 3, 4, 10, 15, 20, 25] [.tmp 4] mixed Tryz.func46 rfl (by kernel_rfl) ok46 (Nat.le_of_ble_eq_true rfl) rfl (by decide) (by kernel_rfl) H
theorem ok47 : codeOk Tryz.prog [] Tryz.f47.ntmps (Tryz.f47.body.getD .skip) = true := by kernel_rfl
theorem in47 {a0 a1 : AV} {h : Heap} {nx : Nat} {K : AV → Heap → Nat → Prop} (H : aw Tryz.prog (tiOf Tryz.prog) [] [0, 1, 4, 5, 9] (Tryz.f47.body.getD .skip) (postA (tiOf Tryz.prog) #[.tmp 4] K) ⟨E [(0, a0), (1, a1)], h, nx, 19⟩) :
    CallsA Tryz.prog 47 [a0, a1] h nx K := CallsA.intro [] [0, 1, 4, 5, 9] [.tmp 4] mixed Tryz.func47 rfl (by kernel_rfl) ok47 (Nat.le_of_ble_eq_true rfl) rfl (by decide) (by kernel_rfl) H
theorem ok48 : codeOk Tryz.prog [] Tryz.f48.ntmps (Tryz.f48.body.getD .skip) = true := by kernel_rfl
theorem in48 {a0 a1 : AV} {h : Heap} {nx : Nat} {K : AV → Heap → Nat → Prop} (H : aw Tryz.prog (tiOf Tryz.prog) [] [0, 1, 4, 5, 9] (Tryz.f48.body.getD .skip) (postA (tiOf Tryz.prog) #[.tmp 4] K) ⟨E [(0, a0), (1, a1)], h, nx, 19⟩) :
    CallsA Tryz.prog 48 [a0, a1] h nx K := CallsA.intro [] [0, 1, 4, 5, 9] [.tmp 4] mixed Tryz.func48 rfl (by kernel_rfl) ok48 (Nat.le_of_ble_eq_true rfl) rfl (by decide) (by kernel_rfl) H
theorem ok49 : codeOk Tryz.prog [] Tryz.f49.ntmps (Tryz.f49.body.getD .skip) = true := by kernel_rfl
theorem in49 {a0 a1 : AV} {h : Heap} {nx : Nat} {K : AV → Heap → Nat → Prop} (H : aw Tryz.prog (tiOf Tryz.prog) [] [0, 1, 2, 4, 7] (Tryz.f49.body.getD .skip) (postA (tiOf Tryz.prog) #[.tmp 4] K) ⟨E [(0, a0), (1, a1)], h, nx, 22⟩) :
    CallsA Tryz.prog 49 [a0, a1] h nx K := CallsA.intro [] [0, 1, 2, 4, 7] [.tmp 4] mixed Tryz.func49 rfl (by kernel_rfl) ok49 (Nat.le_of_ble_eq_true rfl) rfl (by decide) (by kernel_rfl) H
theorem ok50 : codeOk Tryz.prog [] Tryz.f50.ntmps (Tryz.f50.body.getD .skip) = true := by kernel_rfl
theorem in50 {a0 a1 : AV} {h : Heap} {nx : Nat} {K : AV → Heap → Nat → Prop} (H : aw Tryz.prog (tiOf Tryz.prog) [] [0, 1, 2, 4, 5, 6, 7, 15] (Tryz.f50.body.getD .skip) (postA (tiOf Tryz.prog) #[.tmp 4, .tmp 5] K) ⟨E [(0, a0), (1, a1)], h, nx, 20⟩) :
    CallsA Tryz.prog 50 [a0, a1] h nx K := CallsA.intro [] [0, 1, 2, 4, 5, 6, 7, 15] [.tmp 4, .tmp 5] mixed Tryz.func50 rfl (by kernel_rfl) ok50 (Nat.le_of_ble_eq_true rfl) rfl (by decide) (by kernel_rfl) H
theorem ok51 : codeOk Tryz.prog [] Tryz.f51.ntmps (Tryz.f51.body.getD .skip) = true := by kernel_rfl
theorem in51 {h : Heap} {nx : Nat} {K : AV → Heap → Nat → Prop} (H : aw Tryz.prog (tiOf Tryz.prog) [] [0] (Tryz.f51.body.getD .skip) (postA (tiOf Tryz.prog) #[.cell 0 66] K) ⟨E [], h, nx, 2⟩) :
    CallsA Tryz.prog 51 [] h nx K := CallsA.intro [] [0] [.cell 0 66] mixed Tryz.func51 rfl (by kernel_rfl) ok51 (Nat.le_of_ble_eq_true rfl) rfl (by decide) (by kernel_rfl) H
theorem ok52 : codeOk Tryz.prog [] Tryz.f52.ntmps (Tryz.f52.body.getD .skip) = true := by kernel_rfl
theorem in52 {a0 a1 a2 : AV} {h : Heap} {nx : Nat} {K : AV → Heap → Nat → Prop} (H : aw Tryz.prog (tiOf Tryz.prog) [] [0, 1, 2, 3, 6, 7, 8, 18, 23, 39] (Tryz.f52.body.getD .skip) (postA (tiOf Tryz.prog) #[.cell 6 75, .tmp 7] K) ⟨E [(0, a0), (1, a1), (2, a2)], h, nx, 47⟩) :
    CallsA Tryz.prog 52 [a0, a1, a2] h nx K := CallsA.intro [] [0, 1, 2, 3, 6, 7, 8, 18, 23, 39] [.cell 6 75, .tmp 7] mixed Tryz.func52 rfl (by kernel_rfl) ok52 (Nat.le_of_ble_eq_true rfl) rfl (by decide) (by kernel_rfl) H
theorem ok53 : codeOk Tryz.prog [] Tryz.f53.ntmps (Tryz.f53.body.getD .skip) = true := by kernel_rfl
theorem in53 {a0 a1 : AV} {h : Heap} {nx : Nat} {K : AV → Heap → Nat → Prop} (H : aw Tryz.prog (tiOf Tryz.prog) [] [0, 1, 4] (Tryz.f53.body.getD .skip) (postA (tiOf Tryz.prog) #[.tmp 4] K) ⟨E [(0, a0), (1, a1)], h, nx, 10⟩) :
    CallsA Tryz.prog 53 [a0, a1] h nx K := CallsA.intro [] [0, 1, 4] [.tmp 4] mixed Tryz.func53 rfl (by kernel_rfl) ok53 (Nat.le_of_ble_eq_true rfl) rfl (by decide) (by kernel_rfl) H
theorem ok54 : codeOk Tryz.prog [] Tryz.f54.ntmps (Tryz.f54.body.getD .skip) = true := by kernel_rfl
theorem in54 {a0 a1 : AV} {h : Heap} {nx : Nat} {K : AV → Heap → Nat → Prop} (H : aw Tryz.prog (tiOf Tryz.prog) [] [0, 1, 4, 5, 6, 7, 8, 13, 21, 22, 31, 33, 41, 55] (Tryz.f54.body.getD .skip) (postA (tiOf Tryz.prog) #[.tmp 4] K) ⟨E [(0, a0), (1, a1)], h, nx, 74⟩) :
    CallsA Tryz.prog 54 [a0, a1] h nx K := CallsA.intro [] [0, 1, 4, 5, 6, 7, 8, 13, 21, 22, 31, 33, 41, 55] [.tmp 4] mixed Tryz.func54 rfl (by kernel_rfl) ok54 (Nat.le_of_ble_eq_true rfl) rfl (by decide) (by kernel_rfl) H
theorem ok55 : codeOk Tryz.prog [] Tryz.f55.ntmps (Tryz.f55.body.getD .skip) = true := by kernel_rfl
theorem in55 {a0 a1 a2 : AV} {h : Heap} {nx : Nat} {K : AV → Heap → Nat → Prop} (H : aw Tryz.prog (tiOf Tryz.prog) [] [0, 1, 2, 3, 6, 7, 8, 9, 10, 28] (Tryz.f55.body.getD .skip) (postA (tiOf Tryz.prog) #[.tmp 6, .tmp 7] K) ⟨E [(0, a0), (1, a1), (2, a2)], h, nx, 40⟩) :
    CallsA Tryz.prog 55 [a0, a1, a2] h nx K := CallsA.intro [] [0, 1, 2, 3, 6, 7, 8, 9, 10, 28] [.tmp 6, .tmp 7] mixed Tryz.func55 rfl (by kernel_rfl) ok55 (Nat.le_of_ble_eq_true rfl) rfl (by decide) (by kernel_rfl) H
theorem ok56 : codeOk Tryz.prog [] Tryz.f56.ntmps (Tryz.f56.body.getD .skip) = true := by kernel_rfl
theorem in56 {a0 a1 : AV} {h : Heap} {nx : Nat} {K : AV → Heap → Nat → Prop} (H : aw Tryz.prog (tiOf Tryz.prog) [] [0, 1, 4] (Tryz.f56.body.getD .skip) (postA (tiOf Tryz.prog) #[.tmp 4] K) ⟨E [(0, a0), (1, a1)], h, nx, 10⟩) :
    CallsA Tryz.prog 56 [a0, a1] h nx K := CallsA.intro [] [0, 1, 4] [.tmp 4] mixed Tryz.func56 rfl (by kernel_rfl) ok56 (Nat.le_of_ble_eq_true rfl) rfl (by decide) (by kernel_rfl) H
theorem ok57 : codeOk Tryz.prog [] Tryz.f57.ntmps (Tryz.f57.body.getD .skip) = true := by kernel_rfl
theorem in57 {a0 a1 : AV} {h : Heap} {nx : Nat} {K : AV → Heap → Nat → Prop} (H : aw Tryz.prog (tiOf Tryz.prog) [] [0, 1, 4, 5, 6, 7, 11, 12, 13, 14, 19, 20, 32, 37, 48, 65] (Tryz.f57.body.getD .skip) (postA (tiOf Tryz.prog) #[.tmp 4] K) ⟨E [(0, a0), (1, a1)], h, nx, 84⟩) :
    CallsA Tryz.prog 57 [a0, a1] h nx K := CallsA.intro [] [0, 1, 4, 5, 6, 7, 11, 12, 13, 14, 19, 20, 32, 37, 48, 65] [.tmp 4] mixed Tryz.func57 rfl (by kernel_rfl) ok57 (Nat.le_of_ble_eq_true rfl) rfl (by decide) (by kernel_rfl) H
theorem ok58 : codeOk Tryz.prog [] Tryz.f58.ntmps (Tryz.f58.body.getD .skip) = true := by kernel_rfl
theorem in58 {a0 a1 a2 a3 : AV} {h : Heap} {nx : Nat} {K : AV → Heap → Nat → Prop} (H : aw Tryz.prog (tiOf Tryz.prog) [] [0, 1, 2, 3, 4, 8, 9, 10, 11, 21, 33] (Tryz.f58.body.getD .skip) (postA (tiOf Tryz.prog) #[.tmp 8, .tmp 9] K) ⟨E [(0, a0), (1, a1), (2, a2), (3, a3)], h, nx, 37⟩) :
    CallsA Tryz.prog 58 [a0, a1, a2, a3] h nx K := CallsA.intro [] [0, 1, 2, 3, 4, 8, 9, 10, 11, 21, 33] [.tmp 8, .tmp 9] mixed Tryz.func58 rfl (by kernel_rfl) ok58 (Nat.le_of_ble_eq_true rfl) rfl (by decide) (by kernel_rfl) H
theorem ok59 : codeOk Tryz.prog [] Tryz.f59.ntmps (Tryz.f59.body.getD .skip) = true := by kernel_rfl
theorem in59 {a0 a1 a2 a3 : AV} {h : Heap} {nx : Nat} {K : AV → Heap → Nat → Prop} (H : aw Tryz.prog (tiOf Tryz.prog) [] [0, 1, 2, 3, 4, 7, 8, 9, 10, 11, 25, 27] (Tryz.f59.body.getD .skip) (postA (tiOf Tryz.prog) #[.tmp 8, .tmp 9] K) ⟨E [(0, a0), (1, a1), (2, a2), (3, a3)], h, nx, 37⟩) :
    CallsA Tryz.prog 59 [a0, a1, a2, a3] h nx K := CallsA.intro [] [0, 1, 2, 3, 4, 7, 8, 9, 10, 11, 25, 27] [.tmp 8, .tmp 9] mixed Tryz.func59 rfl (by kernel_rfl) ok59 (Nat.le_of_ble_eq_true rfl) rfl (by decide) (by kernel_rfl) H
theorem ok60 : codeOk Tryz.prog [] Tryz.f60.ntmps (Tryz.f60.body.getD .skip) = true := by kernel_rfl
theorem in60 {h : Heap} {nx : Nat} {K : AV → Heap → Nat → Prop} (H : aw Tryz.prog (tiOf Tryz.prog) [] [0] (Tryz.f60.body.getD .skip) (postA (tiOf Tryz.prog) #[.cell 0 66] K) ⟨E [], h, nx, 2⟩) :
    CallsA Tryz.prog 60 [] h nx K := CallsA.intro [] [0] [.cell 0 66] mixed Tryz.func60 rfl (by kernel_rfl) ok60 (Nat.le_of_ble_eq_true rfl) rfl (by decide) (by kernel_rfl) H
theorem ok61 : codeOk Tryz.prog [] Tryz.f61.ntmps (Tryz.f61.body.getD .skip) = true := by kernel_rfl
theorem in61 {h : Heap} {nx : Nat} {K : AV → Heap → Nat → Prop} (H : aw Tryz.prog (tiOf Tryz.prog) [] [0, 1] (Tryz.f61.body.getD .skip) (postA (tiOf Tryz.prog) #[.cell 0 66] K) ⟨E [], h, nx, 4⟩) :
    CallsA Tryz.prog 61 [] h nx K := CallsA.intro [] [0, 1] [.cell 0 66] mixed Tryz.func61 rfl (by kernel_rfl) ok61 (Nat.le_of_ble_eq_true rfl) rfl (by decide) (by kernel_rfl) H
theorem ok62 : codeOk Tryz.prog [] Tryz.f62.ntmps (Tryz.f62.body.getD .skip) = true := by kernel_rfl
theorem in62 {a0 a1 : AV} {h : Heap} {nx : Nat} {K : AV → Heap → Nat → Prop} (H : aw Tryz.prog (tiOf Tryz.prog) [] [0, 1, 4, 10] (Tryz.f62.body.getD .skip) (postA (tiOf Tryz.prog) #[.tmp 4] K) ⟨E [(0, a0), (1, a1)], h, nx, 12⟩) :
    CallsA Tryz.prog 62 [a0, a1] h nx K := CallsA.intro [] [0, 1, 4, 10] [.tmp 4] mixed Tryz.func62 rfl (by kernel_rfl) ok62 (Nat.le_of_ble_eq_true rfl) rfl (by decide) (by kernel_rfl) H
theorem ok63 : codeOk Tryz.prog [] Tryz.f63.ntmps (Tryz.f63.body.getD .skip) = true := by kernel_rfl
theorem in63 {a0 : AV} {h : Heap} {nx : Nat} {K : AV → Heap → Nat → Prop} (H : aw Tryz.prog (tiOf Tryz.prog) [] [0, 1, 2, 3, 13, 18, 29] (Tryz.f63.body.getD .skip) (postA (tiOf Tryz.prog) #[.tmp 2] K) ⟨E [(0, a0)], h, nx, 30⟩) :
    CallsA Tryz.prog 63 [a0] h nx K := CallsA.intro [] [0, 1, 2, 3, 13, 18, 29] [.tmp 2] mixed Tryz.func63 rfl (by kernel_rfl) ok63 (Nat.le_of_ble_eq_true rfl) rfl (by decide) (by kernel_rfl) H
theorem ok64 : codeOk Tryz.prog [] Tryz.f64.ntmps (Tryz.f64.body.getD .skip) = true := by kernel_rfl
theorem in64 {a0 a1 a2 : AV} {h : Heap} {nx : Nat} {K : AV → Heap → Nat → Prop} (H : aw Tryz.prog (tiOf Tryz.prog) [] [0, 1, 2, 6] (Tryz.f64.body.getD .skip) (postA (tiOf Tryz.prog) #[.tmp 6] K) ⟨E [(0, a0), (1, a1), (2, a2)], h, nx, 15⟩) :
    CallsA Tryz.prog 64 [a0, a1, a2] h nx K := CallsA.intro [] [0, 1, 2, 6] [.tmp 6] mixed Tryz.func64 rfl (by kernel_rfl) ok64 (Nat.le_of_ble_eq_true rfl) rfl (by decide) (by kernel_rfl) H
theorem ok65 : codeOk Tryz.prog [] Tryz.f65.ntmps (Tryz.f65.body.getD .skip) = true := by kernel_rfl
theorem in65 {a0 a1 : AV} {h : Heap} {nx : Nat} {K : AV → Heap → Nat → Prop} (H : aw Tryz.prog (tiOf Tryz.prog) [] [0, 1, 2, 4, 5, 6, 7, 8, 9, 10, 11, 12, 19, 29, 38, 44] (Tryz.f65.body.getD .skip) (postA (tiOf Tryz.prog) #[.tmp 4, .tmp 5, .tmp 6] K) ⟨E [(0, a0), (1, a1)], h, nx, 53⟩) :
    CallsA Tryz.prog 65 [a0, a1] h nx K := CallsA.intro [] [0, 1, 2, 4, 5, 6, 7, 8, 9, 10, 11, 12, 19, 29, 38, 44] [.tmp 4, .tmp 5, .tmp 6] mixed Tryz.func65 rfl (by kernel_rfl) ok65 (Nat.le_of_ble_eq_true rfl) rfl (by decide) (by kernel_rfl) H
theorem ok66 : codeOk Tryz.prog [] Tryz.f66.ntmps (Tryz.f66.body.getD .skip) = true := by kernel_rfl
theorem in66 {a0 a1 a2 : AV} {h : Heap} {nx : Nat} {K : AV → Heap → Nat → Prop} (H : aw Tryz.prog (tiOf Tryz.prog) [] [0, 1, 2, 6, 7, 8, 9, 13, 22, 41] (Tryz.f66.body.getD .skip) (postA (tiOf Tryz.prog) #[.tmp 6] K) ⟨E [(0, a0), (1, a1), (2, a2)], h, nx, 42⟩) :
    CallsA Tryz.prog 66 [a0, a1, a2] h nx K := CallsA.intro [] [0, 1, 2, 6, 7, 8, 9, 13, 22, 41] [.tmp 6] mixed Tryz.func66 rfl (by kernel_rfl) ok66 (Nat.le_of_ble_eq_true rfl) rfl (by decide) (by kernel_rfl) H
theorem ok67 : codeOk Tryz.prog [] Tryz.f67.ntmps (Tryz.f67.body.getD .skip) = true := by kernel_rfl
theorem in67 {a0 a1 : AV} {h : Heap} {nx : Nat} {K : AV → Heap → Nat → Prop} (H : aw Tryz.prog (tiOf Tryz.prog) [] [0, 1, 2, 4] (Tryz.f67.body.getD .skip) (postA (tiOf Tryz.prog) #[.tmp 4] K) ⟨E [(0, a0), (1, a1)], h, nx, 14⟩) :
    CallsA Tryz.prog 67 [a0, a1] h nx K := CallsA.intro [] [0, 1, 2, 4] [.tmp 4] mixed Tryz.func67 rfl (by kernel_rfl) ok67 (Nat.le_of_ble_eq_true rfl) rfl (by decide) (by kernel_rfl) H
theorem ok68 : codeOk Tryz.prog [] Tryz.f68.ntmps (Tryz.f68.body.getD .skip) = true := by kernel_rfl
theorem in68 {a0 : AV} {h : Heap} {nx : Nat} {K : AV → Heap → Nat → Prop} (H : aw Tryz.prog (tiOf Tryz.prog) [] [0, 2] (Tryz.f68.body.getD .skip) (postA (tiOf Tryz.prog) #[.tmp 2] K) ⟨E [(0, a0)], h, nx, 10⟩) :
    CallsA Tryz.prog 68 [a0] h nx K := CallsA.intro [] [0, 2] [.tmp 2] mixed Tryz.func68 rfl (by kernel_rfl) ok68 (Nat.le_of_ble_eq_true rfl) rfl (by decide) (by kernel_rfl) H
theorem ok69 : codeOk Tryz.prog [] Tryz.f69.ntmps (Tryz.f69.body.getD .skip) = true := by kernel_rfl
theorem in69 {a0 a1 a2 : AV} {h : Heap} {nx : Nat} {K : AV → Heap → Nat → Prop} (H : aw Tryz.prog (tiOf Tryz.prog) [] [0, 1, 2, 3, 6, 7, 8, 9] (Tryz.f69.body.getD .skip) (postA (tiOf Tryz.prog) #[.tmp 6, .tmp 7] K) ⟨E [(0, a0), (1, a1), (2, a2)], h, nx, 36⟩) :
    CallsA Tryz.prog 69 [a0, a1, a2] h nx K := CallsA.intro [] [0, 1, 2, 3, 6, 7, 8, 9] [.tmp 6, .tmp 7] mixed Tryz.func69 rfl (by kernel_rfl) ok69 (Nat.le_of_ble_eq_true rfl) rfl (by decide) (by kernel_rfl) H
theorem ok70 : codeOk Tryz.prog [] Tryz.f70.ntmps (Tryz.f70.body.getD .skip) = true := by kernel_rfl
theorem in70 {a0 : AV} {h : Heap} {nx : Nat} {K : AV → Heap → Nat → Prop} (H : aw Tryz.prog (tiOf Tryz.prog) [] [0, 1, 2] (Tryz.f70.body.getD .skip) (postA (tiOf Tryz.prog) #[.tmp 2] K) ⟨E [(0, a0)], h, nx, 6⟩) :
    CallsA Tryz.prog 70 [a0] h nx K := CallsA.intro [] [0, 1, 2] [.tmp 2] mixed Tryz.func70 rfl (by kernel_rfl) ok70 (Nat.le_of_ble_eq_true rfl) rfl (by decide) (by kernel_rfl) H
theorem ok71 : codeOk Tryz.prog [] Tryz.f71.ntmps (Tryz.f71.body.getD .skip) = true := by kernel_rfl
theorem in71 {a0 a1 a2 a3 : AV} {h : Heap} {nx : Nat} {K : AV → Heap → Nat → Prop} (H : aw Tryz.prog (tiOf Tryz.prog) [] [0, 1, 2, 3, 8] (Tryz.f71.body.getD .skip) (postA (tiOf Tryz.prog) #[.tmp 8] K) ⟨E [(0, a0), (1, a1), (2, a2), (3, a3)], h, nx, 16⟩) :
    CallsA Tryz.prog 71 [a0, a1, a2, a3] h nx K := CallsA.intro [] [0, 1, 2, 3, 8] [.tmp 8] mixed Tryz.func71 rfl (by kernel_rfl) ok71 (Nat.le_of_ble_eq_true rfl) rfl (by decide) (by kernel_rfl) H
theorem ok72 : codeOk Tryz.prog [] Tryz.f72.ntmps (Tryz.f72.body.getD .skip) = true := by kernel_rfl
theorem in72 {a0 : AV} {h : Heap} {nx : Nat} {K : AV → Heap → Nat → Prop} (H : aw Tryz.prog (tiOf Tryz.prog) [] [0, 1, 2] (Tryz.f72.body.getD .skip) (postA (tiOf Tryz.prog) #[.tmp 2] K) ⟨E [(0, a0)], h, nx, 11⟩) :
    CallsA Tryz.prog 72 [a0] h nx K := CallsA.intro [] [0, 1, 2] [.tmp 2] mixed Tryz.func72 rfl (by kernel_rfl) ok72 (Nat.le_of_ble_eq_true rfl) rfl (by decide) (by kernel_rfl) H
theorem ok73 : codeOk Tryz.prog [] Tryz.f73.ntmps (Tryz.f73.body.getD .skip) = true := by kernel_rfl
theorem in73 {a0 : AV} {h : Heap} {nx : Nat} {K : AV → Heap → Nat → Prop} (H : aw Tryz.prog (tiOf Tryz.prog) [] [0, 2, 3, 4, 11] (Tryz.f73.body.getD .skip) (postA (tiOf Tryz.prog) #[.tmp 2] K) ⟨E [(0, a0)], h, nx, 22⟩) :
    CallsA Tryz.prog 73 [a0] h nx K := CallsA.intro [] [0, 2, 3, 4, 11] [.tmp 2] mixed Tryz.func73 rfl (by kernel_rfl) ok73 (Nat.le_of_ble_eq_true rfl) rfl (by decide) (by kernel_rfl) H
theorem ok74 : codeOk Tryz.prog [] Tryz.f74.ntmps (Tryz.f74.body.getD .skip) = true := by kernel_rfl
theorem in74 {a0 a1 : AV} {h : Heap} {nx : Nat} {K : AV → Heap → Nat → Prop} (H : aw Tryz.prog (tiOf Tryz.prog) [] [0, 1, 2, 4, 5, 6, 7, 18] (Tryz.f74.body.getD .skip) (postA (tiOf Tryz.prog) #[.tmp 4, .tmp 5] K) ⟨E [(0, a0), (1, a1)], h, nx, 35⟩) :
    CallsA Tryz.prog 74 [a0, a1] h nx K := CallsA.intro [] [0, 1, 2, 4, 5, 6, 7, 18] [.tmp 4, .tmp 5] mixed Tryz.func74 rfl (by kernel_rfl) ok74 (Nat.le_of_ble_eq_true rfl) rfl (by decide) (by kernel_rfl) H
theorem ok75 : codeOk Tryz.prog [] Tryz.f75.ntmps (Tryz.f75.body.getD .skip) = true := by kernel_rfl
theorem in75 {a0 a1 a2 : AV} {h : Heap} {nx : Nat} {K : AV → Heap → Nat → Prop} (H : aw Tryz.prog (tiOf Tryz.prog) [] [0, 1, 2, 6, 8, 12, 13, 14, 15, 22] (Tryz.f75.body.getD .skip) (postA (tiOf Tryz.prog) #[.tmp 6] K) ⟨E [(0, a0), (1, a1), (2, a2)], h, nx, 24⟩) :
    CallsA Tryz.prog 75 [a0, a1, a2] h nx K := CallsA.intro [] [0, 1, 2, 6, 8, 12, 13, 14, 15, 22] [.tmp 6] mixed Tryz.func75 rfl (by kernel_rfl) ok75 (Nat.le_of_ble_eq_true rfl) rfl (by decide) (by kernel_rfl) H
theorem ok76 : codeOk Tryz.prog [] Tryz.f76.ntmps (Tryz.f76.body.getD .skip) = true := by kernel_rfl
theorem in76 {a0 : AV} {h : Heap} {nx : Nat} {K : AV → Heap → Nat → Prop} (H : aw Tryz.prog (tiOf Tryz.prog) [] [0, 2] (Tryz.f76.body.getD .skip) (postA (tiOf Tryz.prog) #[.tmp 2] K) ⟨E [(0, a0)], h, nx, 13⟩) :
    CallsA Tryz.prog 76 [a0] h nx K := CallsA.intro [] [0, 2] [.tmp 2] mixed Tryz.func76 rfl (by kernel_rfl) ok76 (Nat.le_of_ble_eq_true rfl) rfl (by decide) (by kernel_rfl) H
theorem ok77 : codeOk Tryz.prog [] Tryz.f77.ntmps (Tryz.f77.body.getD .skip) = true := by kernel_rfl
theorem in77 {a0 a1 : AV} {h : Heap} {nx : Nat} {K : AV → Heap → Nat → Prop} (H : aw Tryz.prog (tiOf Tryz.prog) [] [0, 1, 2, 4] (Tryz.f77.body.getD .skip) (postA (tiOf Tryz.prog) #[.tmp 4] K) ⟨E [(0, a0), (1, a1)], h, nx, 20⟩) :
    CallsA Tryz.prog 77 [a0, a1] h nx K := CallsA.intro [] [0, 1, 2, 4] [.tmp 4] mixed Tryz.func77 rfl (by kernel_rfl) ok77 (Nat.le_of_ble_eq_true rfl) rfl (by decide) (by kernel_rfl) H
theorem ok78 : codeOk Tryz.prog [] Tryz.f78.ntmps (Tryz.f78.body.getD .skip) = true := by kernel_rfl
theorem in78 {a0 a1 a2 : AV} {h : Heap} {nx : Nat} {K : AV → Heap → Nat → Prop} (H : aw Tryz.prog (tiOf Tryz.prog) [] [0, 1, 2, 5, 6, 7, 9, 10, 14, 15, 16, 17, 24, 32] (Tryz.f78.body.getD .skip) (postA (tiOf Tryz.prog) #[.tmp 6] K) ⟨E [(0, a0), (1, a1), (2, a2)], h, nx, 55⟩) :
    CallsA Tryz.prog 78 [a0, a1, a2] h nx K := CallsA.intro [] [0, 1, 2, 5, 6, 7, 9, 10, 14, 15, 16, 17, 24, 32] [.tmp 6] mixed Tryz.func78 rfl (by kernel_rfl) ok78 (Nat.le_of_ble_eq_true rfl) rfl (by decide) (by kernel_rfl) H
theorem ok79 : codeOk Tryz.prog [] Tryz.f79.ntmps (Tryz.f79.body.getD .skip) = true := by kernel_rfl
theorem in79 {a0 : AV} {h : Heap} {nx : Nat} {K : AV → Heap → Nat → Prop} (H : aw Tryz.prog (tiOf Tryz.prog) [] [0, 2, 3, 9] (Tryz.f79.body.getD .skip) (postA (tiOf Tryz.prog) #[.tmp 2, .tmp 3] K) ⟨E [(0, a0)], h, nx, 21⟩) :
    CallsA Tryz.prog 79 [a0] h nx K := CallsA.intro [] [0, 2, 3, 9] [.tmp 2, .tmp 3] mixed Tryz.func79 rfl (by kernel_rfl) ok79 (Nat.le_of_ble_eq_true rfl) rfl (by decide) (by kernel_rfl) H
theorem ok80 : codeOk Tryz.prog [] Tryz.f80.ntmps (Tryz.f80.body.getD .skip) = true := by kernel_rfl
theorem in80 {a0 a1 : AV} {h : Heap} {nx : Nat} {K : AV → Heap → Nat → Prop} (H : aw Tryz.prog (tiOf Tryz.prog) [] [0, 1, 3, 4, 14] (Tryz.f80.body.getD .skip) (postA (tiOf Tryz.prog) #[.tmp 4] K) ⟨E [(0, a0), (1, a1)], h, nx, 19⟩) :
    CallsA Tryz.prog 80 [a0, a1] h nx K := CallsA.intro [] [0, 1, 3, 4, 14] [.tmp 4] mixed Tryz.func80 rfl (by kernel_rfl) ok80 (Nat.le_of_ble_eq_true rfl) rfl (by decide) (by kernel_rfl) H
theorem ok81 : codeOk Tryz.prog [] Tryz.f81.ntmps (Tryz.f81.body.getD .skip) = true := by kernel_rfl
theorem in81 {a0 a1 a2 a3 : AV} {h : Heap} {nx : Nat} {K : AV → Heap → Nat → Prop} (H : aw Tryz.prog (tiOf Tryz.prog) [] [0, 1, 2, 3, 8] (Tryz.f81.body.getD .skip) (postA (tiOf Tryz.prog) #[.tmp 8] K) ⟨E [(0, a0), (1, a1), (2, a2), (3, a3)], h, nx, 18⟩) :
    CallsA Tryz.prog 81 [a0, a1, a2, a3] h nx K := CallsA.intro [] [0, 1, 2, 3, 8] [.tmp 8] mixed Tryz.func81 rfl (by kernel_rfl) ok81 (Nat.le_of_ble_eq_true rfl) rfl (by decide) (by kernel_rfl) H
theorem ok82 : codeOk Tryz.prog [] Tryz.f82.ntmps (Tryz.f82.body.getD .skip) = true := by kernel_rfl
theorem in82 {a0 a1 a2 a3 : AV} {h : Heap} {nx : Nat} {K : AV → Heap → Nat → Prop} (H : aw Tryz.prog (tiOf Tryz.prog) [] [0, 1, 2, 3, 8] (Tryz.f82.body.getD .skip) (postA (tiOf Tryz.prog) #[.tmp 8] K) ⟨E [(0, a0), (1, a1), (2, a2), (3, a3)], h, nx, 28⟩) :
    CallsA Tryz.prog 82 [a0, a1, a2, a3] h nx K := CallsA.intro [] [0, 1, 2, 3, 8] [.tmp 8] mixed Tryz.func82 rfl (by kernel_rfl) ok82 (Nat.le_of_ble_eq_true rfl) rfl (by decide) (by kernel_rfl) H
theorem ok83 : codeOk Tryz.prog [] Tryz.f83.ntmps (Tryz.f83.body.getD .skip) = true := by kernel_rfl
theorem in83 {a0 a1 : AV} {h : Heap} {nx : Nat} {K : AV → Heap → Nat → Prop} (H : aw Tryz.prog (tiOf Tryz.prog) [] [0, 1, 4, 5, 10, 14, 25] (Tryz.f83.body.getD .skip) (postA (tiOf Tryz.prog) #[.tmp 4] K) ⟨E [(0, a0), (1, a1)], h, nx, 26⟩) :
    CallsA Tryz.prog 83 [a0, a1] h nx K := CallsA.intro [] [0, 1, 4, 5, 10, 14, 25] [.tmp 4] mixed Tryz.func83 rfl (by kernel_rfl) ok83 (Nat.le_of_ble_eq_true rfl) rfl (by decide) (by kernel_rfl) H
theorem ok84 : codeOk Tryz.prog [] Tryz.f84.ntmps (Tryz.f84.body.getD .skip) = true := by kernel_rfl
theorem in84 {a0 : AV} {h : Heap} {nx : Nat} {K : AV → Heap → Nat → Prop} (H : aw Tryz.prog (tiOf Tryz.prog) [] [0, 2] (Tryz.f84.body.getD .skip) (postA (tiOf Tryz.prog) #[.tmp 2] K) ⟨E [(0, a0)], h, nx, 13⟩) :
    CallsA Tryz.prog 84 [a0] h nx K := CallsA.intro [] [0, 2] [.tmp 2] mixed Tryz.func84 rfl (by kernel_rfl) ok84 (Nat.le_of_ble_eq_true rfl) rfl (by decide) (by kernel_rfl) H
theorem ok85 : codeOk Tryz.prog [] Tryz.f85.ntmps (Tryz.f85.body.getD .skip) = true := by kernel_rfl
theorem in85 {a0 a1 a2 a3 : AV} {h : Heap} {nx : Nat} {K : AV → Heap → Nat → Prop} (H : aw Tryz.prog (tiOf Tryz.prog) [] [0, 1, 2, 3, 8] (Tryz.f85.body.getD .skip) (postA (tiOf Tryz.prog) #[.tmp 8] K) ⟨E [(0, a0), (1, a1), (2, a2), (3, a3)], h, nx, 18⟩) :
    CallsA Tryz.prog 85 [a0, a1, a2, a3] h nx K := CallsA.intro [] [0, 1, 2, 3, 8] [.tmp 8] mixed Tryz.func85 rfl (by kernel_rfl) ok85 (Nat.le_of_ble_eq_true rfl) rfl (by decide) (by kernel_rfl) H
theorem ok86 : codeOk Tryz.prog [(6, 7), (7, 7), (9, 1008)] Tryz.f86.ntmps (Tryz.f86.body.getD .skip) = true := by kernel_rfl
theorem in86 {a0 a1 a2 a3 : AV} {h : Heap} {nx : Nat} {K : AV → Heap → Nat → Prop} (H : aw Tryz.prog (tiOf Tryz.prog) [(6, 7), (7, 7), (9, 1008)] [0, 1, 2, 3, 4, 8, 9, 10, 11, 18, 21] (Tryz.f86.body.getD .skip) (postA (tiOf Tryz.prog) #[.cell 8 75, .tmp 9] K) ⟨E [(0, a0), (1, a1), (2, a2), (3, a3)], h, nx, 52⟩) :
    CallsA Tryz.prog 86 [a0, a1, a2, a3] h nx K := CallsA.intro [(6, 7), (7, 7), (9, 1008)] [0, 1, 2, 3, 4, 8, 9, 10, 11, 18, 21] [.cell 8 75, .tmp 9] mixed Tryz.func86 rfl (by kernel_rfl) ok86 (Nat.le_of_ble_eq_true rfl) rfl (by decide) (by kernel_rfl) H
theorem ok87 : codeOk Tryz.prog [] Tryz.f87.ntmps (Tryz.f87.body.getD .skip) = true := by kernel_rfl
theorem in87 {a0 a1 : AV} {h : Heap} {nx : Nat} {K : AV → Heap → Nat → Prop} (H : aw Tryz.prog (tiOf Tryz.prog) [] [0, 1, 4] (Tryz.f87.body.getD .skip) (postA (tiOf Tryz.prog) #[.tmp 4] K) ⟨E [(0, a0), (1, a1)], h, nx, 9⟩) :
    CallsA Tryz.prog 87 [a0, a1] h nx K := CallsA.intro [] [0, 1, 4] [.tmp 4] mixed Tryz.func87 rfl (by kernel_rfl) ok87 (Nat.le_of_ble_eq_true rfl) rfl (by decide) (by kernel_rfl) H
theorem ok88 : codeOk Tryz.prog [] Tryz.f88.ntmps (Tryz.f88.body.getD .skip) = true := by kernel_rfl
theorem in88 {a0 : AV} {h : Heap} {nx : Nat} {K : AV → Heap → Nat → Prop} (H : aw Tryz.prog (tiOf Tryz.prog) [] [0, 1, 2] (Tryz.f88.body.getD .skip) (postA (tiOf Tryz.prog) #[.tmp 2] K) ⟨E [(0, a0)], h, nx, 11⟩) :
    CallsA Tryz.prog 88 [a0] h nx K := CallsA.intro [] [0, 1, 2] [.tmp 2] mixed Tryz.func88 rfl (by kernel_rfl) ok88 (Nat.le_of_ble_eq_true rfl) rfl (by decide) (by kernel_rfl) H
theorem ok89 : codeOk Tryz.prog [] Tryz.f89.ntmps (Tryz.f89.body.getD .skip) = true := by kernel_rfl
theorem in89 {a0 a1 a2 : AV} {h : Heap} {nx : Nat} {K : AV → Heap → Nat → Prop} (H : aw Tryz.prog (tiOf Tryz.prog) [] [0, 1, 2, 6] (Tryz.f89.body.getD .skip) (postA (tiOf Tryz.prog) #[.tmp 6] K) ⟨E [(0, a0), (1, a1), (2, a2)], h, nx, 15⟩) :
    CallsA Tryz.prog 89 [a0, a1, a2] h nx K := CallsA.intro [] [0, 1, 2, 6] [.tmp 6] mixed Tryz.func89 rfl (by kernel_rfl) ok89 (Nat.le_of_ble_eq_true rfl) rfl (by decide) (by kernel_rfl) H
theorem ok90 : codeOk Tryz.prog [] Tryz.f90.ntmps (Tryz.f90.body.getD .skip) = true := by kernel_rfl
theorem in90 {a0 : AV} {h : Heap} {nx : Nat} {K : AV → Heap → Nat → Prop} (H : aw Tryz.prog (tiOf Tryz.prog) [] [0, 2, 3, 4, 5, 12, 35, 44] (Tryz.f90.body.getD .skip) (postA (tiOf Tryz.prog) #[.tmp 2] K) ⟨E [(0, a0)], h, nx, 61⟩) :
    CallsA Tryz.prog 90 [a0] h nx K := CallsA.intro [] [0, 2, 3, 4, 5, 12, 35, 44] [.tmp 2] mixed Tryz.func90 rfl (by kernel_rfl) ok90 (Nat.le_of_ble_eq_true rfl) rfl (by decide) (by kernel_rfl) H
theorem ok91 : codeOk Tryz.prog [(6, 19)] Tryz.f91.ntmps (Tryz.f91.body.getD .skip) = true := by kernel_rfl
theorem in91 {a0 : AV} {h : Heap} {nx : Nat} {K : AV → Heap → Nat → Prop} (H : aw Tryz.prog (tiOf Tryz.prog) [(6, 19)] [0, 2, 3, 5, 6, 9, 10, 11, 12, 35, 42] (Tryz.f91.body.getD .skip) (postA (tiOf Tryz.prog) #[.tmp 2] K) ⟨E [(0, a0)], h, nx, 66⟩) :
    CallsA Tryz.prog 91 [a0] h nx K := CallsA.intro [(6, 19)] [0, 2, 3, 5, 6, 9, 10, 11, 12, 35, 42] [.tmp 2] mixed Tryz.func91 rfl (by kernel_rfl) ok91 (Nat.le_of_ble_eq_true rfl) rfl (by decide) (by kernel_rfl) H
theorem ok92 : codeOk Tryz.prog [] Tryz.f92.ntmps (Tryz.f92.body.getD .skip) = true := by kernel_rfl
theorem in92 {a0 a1 a2 a3 : AV} {h : Heap} {nx : Nat} {K : AV → Heap → Nat → Prop} (H : aw Tryz.prog (tiOf Tryz.prog) [] [0, 1, 2, 3, 8, 9, 10, 11] (Tryz.f92.body.getD .skip) (postA (tiOf Tryz.prog) #[.tmp 8] K) ⟨E [(0, a0), (1, a1), (2, a2), (3, a3)], h, nx, 29⟩) :
    CallsA Tryz.prog 92 [a0, a1, a2, a3] h nx K := CallsA.intro [] [0, 1, 2, 3, 8, 9, 10, 11] [.tmp 8] mixed Tryz.func92 rfl (by kernel_rfl) ok92 (Nat.le_of_ble_eq_true rfl) rfl (by decide) (by kernel_rfl) H
theorem ok93 : codeOk Tryz.prog [] Tryz.f93.ntmps (Tryz.f93.body.getD .skip) = true := by kernel_rfl
theorem in93 {a0 a1 : AV} {h : Heap} {nx : Nat} {K : AV → Heap → Nat → Prop} (H : aw Tryz.prog (tiOf Tryz.prog) [] [0, 1, 3, 4, 5, 7, 8, 21, 24, 25, 26, 27, 40, 46] (Tryz.f93.body.getD .skip) (postA (tiOf Tryz.prog) #[.tmp 4] K) ⟨E [(0, a0), (1, a1)], h, nx, 56⟩) :
    CallsA Tryz.prog 93 [a0, a1] h nx K := CallsA.intro [] [0, 1, 3, 4, 5, 7, 8, 21, 24, 25, 26, 27, 40, 46] [.tmp 4] mixed Tryz.func93 rfl (by kernel_rfl) ok93 (Nat.le_of_ble_eq_true rfl) rfl (by decide) (by kernel_rfl) H
theorem ok94 : codeOk Tryz.prog [] Tryz.f94.ntmps (Tryz.f94.body.getD .skip) = true := by kernel_rfl
theorem in94 {a0 a1 : AV} {h : Heap} {nx : Nat} {K : AV → Heap → Nat → Prop} (H : aw Tryz.prog (tiOf Tryz.prog) [] [0, 1, 4] (Tryz.f94.body.getD .skip) (postA (tiOf Tryz.prog) #[.tmp 4] K) ⟨E [(0, a0), (1, a1)], h, nx, 9⟩) :
    CallsA Tryz.prog 94 [a0, a1] h nx K := CallsA.intro [] [0, 1, 4] [.tmp 4] mixed Tryz.func94 rfl (by kernel_rfl) ok94 (Nat.le_of_ble_eq_true rfl) rfl (by decide) (by kernel_rfl) H
theorem ok95 : codeOk Tryz.prog [] Tryz.f95.ntmps (Tryz.f95.body.getD .skip) = true := by kernel_rfl
theorem in95 {a0 : AV} {h : Heap} {nx : Nat} {K : AV → Heap → Nat → Prop} (H : aw Tryz.prog (tiOf Tryz.prog) [] [0, 2] (Tryz.f95.body.getD .skip) (postA (tiOf Tryz.prog) #[.tmp 2] K) ⟨E [(0, a0)], h, nx, 7⟩) :
    CallsA Tryz.prog 95 [a0] h nx K := CallsA.intro [] [0, 2] [.tmp 2] mixed Tryz.func95 rfl (by kernel_rfl) ok95 (Nat.le_of_ble_eq_true rfl) rfl (by decide) (by kernel_rfl) H
theorem ok96 : codeOk Tryz.prog [] Tryz.f96.ntmps (Tryz.f96.body.getD .skip) = true := by kernel_rfl
theorem in96 {a0 a1 a2 a3 : AV} {h : Heap} {nx : Nat} {K : AV → Heap → Nat → Prop} (H : aw Tryz.prog (tiOf Tryz.prog) [] [0, 2, 3, 8] (Tryz.f96.body.getD .skip) (postA (tiOf Tryz.prog) #[.tmp 8] K) ⟨E [(0, a0), (1, a1), (2, a2), (3, a3)], h, nx, 13⟩) :
    CallsA Tryz.prog 96 [a0, a1, a2, a3] h nx K := CallsA.intro [] [0, 2, 3, 8] [.tmp 8] mixed Tryz.func96 rfl (by kernel_rfl) ok96 (Nat.le_of_ble_eq_true rfl) rfl (by decide) (by kernel_rfl) H
theorem ok97 : codeOk Tryz.prog [] Tryz.f97.ntmps (Tryz.f97.body.getD .skip) = true := by kernel_rfl
theorem in97 {a0 : AV} {h : Heap} {nx : Nat} {K : AV → Heap → Nat → Prop} (H : aw Tryz.prog (tiOf Tryz.prog) [] [0, 2] (Tryz.f97.body.getD .skip) (postA (tiOf Tryz.prog) #[.tmp 2] K) ⟨E [(0, a0)], h, nx, 5⟩) :
    CallsA Tryz.prog 97 [a0] h nx K := CallsA.intro [] [0, 2] [.tmp 2] mixed Tryz.func97 rfl (by kernel_rfl) ok97 (Nat.le_of_ble_eq_true rfl) rfl (by decide) (by kernel_rfl) H
theorem ok98 : codeOk Tryz.prog [] Tryz.f98.ntmps (Tryz.f98.body.getD .skip) = true := by kernel_rfl
theorem in98 {a0 a1 : AV} {h : Heap} {nx : Nat} {K : AV → Heap → Nat → Prop} (H : aw Tryz.prog (tiOf Tryz.prog) [] [0, 1, 4, 5, 8, 12, 39] (Tryz.f98.body.getD .skip) (postA (tiOf Tryz.prog) #[.tmp 4] K) ⟨E [(0, a0), (1, a1)], h, nx, 40⟩) :
    CallsA Tryz.prog 98 [a0, a1] h nx K := CallsA.intro [] [0, 1, 4, 5, 8, 12, 39] [.tmp 4] mixed Tryz.func98 rfl (by kernel_rfl) ok98 (Nat.le_of_ble_eq_true rfl) rfl (by decide) (by kernel_rfl) H
theorem ok99 : codeOk Tryz.prog [] Tryz.f99.ntmps (Tryz.f99.body.getD .skip) = true := by kernel_rfl
theorem in99 {a0 a1 : AV} {h : Heap} {nx : Nat} {K : AV → Heap → Nat → Prop} (H : aw Tryz.prog (tiOf Tryz.prog) [] [0, 1, 4, 5, 9, 17] (Tryz.f99.body.getD .skip) (postA (tiOf Tryz.prog) #[.tmp 4] K) ⟨E [(0, a0), (1, a1)], h, nx, 18⟩) :
    CallsA Tryz.prog 99 [a0, a1] h nx K := CallsA.intro [] [0, 1, 4, 5, 9, 17] [.tmp 4] mixed Tryz.func99 rfl (by kernel_rfl) ok99 (Nat.le_of_ble_eq_true rfl) rfl (by decide) (by kernel_rfl) H
theorem ok100 : codeOk Tryz.prog [] Tryz.f100.ntmps (Tryz.f100.body.getD .skip) = true := by kernel_rfl
theorem in100 {a0 : AV} {h : Heap} {nx : Nat} {K : AV → Heap → Nat → Prop} (H : aw Tryz.prog (tiOf Tryz.prog) [] [0, 2, 4] (Tryz.f100.body.getD .skip) (postA (tiOf Tryz.prog) #[.tmp 2] K) ⟨E [(0, a0)], h, nx, 8⟩) :
    CallsA Tryz.prog 100 [a0] h nx K := CallsA.intro [] [0, 2, 4] [.tmp 2] mixed Tryz.func100 rfl (by kernel_rfl) ok100 (Nat.le_of_ble_eq_true rfl) rfl (by decide) (by kernel_rfl) H
theorem ok101 : codeOk Tryz.prog [] Tryz.f101.ntmps (Tryz.f101.body.getD .skip) = true := by kernel_rfl
theorem in101 {a0 a1 : AV} {h : Heap} {nx : Nat} {K : AV → Heap → Nat → Prop} (H : aw Tryz.prog (tiOf Tryz.prog) [] [0, 1, 2, 4] (Tryz.f101.body.getD .skip) (postA (tiOf Tryz.prog) #[.tmp 4] K) ⟨E [(0, a0), (1, a1)], h, nx, 12⟩) :
    CallsA Tryz.prog 101 [a0, a1] h nx K := CallsA.intro [] [0, 1, 2, 4] [.tmp 4] mixed Tryz.func101 rfl (by kernel_rfl) ok101 (Nat.le_of_ble_eq_true rfl) rfl (by decide) (by kernel_rfl) H
theorem ok102 : codeOk Tryz.prog [] Tryz.f102.ntmps (Tryz.f102.body.getD .skip) = true := by kernel_rfl
theorem in102 {a0 a1 : AV} {h : Heap} {nx : Nat} {K : AV → Heap → Nat → Prop} (H : aw Tryz.prog (tiOf Tryz.prog) [] [0, 1, 2, 4, 5, 9, 16] (Tryz.f102.body.getD .skip) (postA (tiOf Tryz.prog) #[.tmp 4] K) ⟨E [(0, a0), (1, a1)], h, nx, 18⟩) :
    CallsA Tryz.prog 102 [a0, a1] h nx K := CallsA.intro [] [0, 1, 2, 4, 5, 9, 16] [.tmp 4] mixed Tryz.func102 rfl (by kernel_rfl) ok102 (Nat.le_of_ble_eq_true rfl) rfl (by decide) (by kernel_rfl) H
theorem ok103 : codeOk Tryz.prog [] Tryz.f103.ntmps (Tryz.f103.body.getD .skip) = true := by kernel_rfl
theorem in103 {a0 a1 : AV} {h : Heap} {nx : Nat} {K : AV → Heap → Nat → Prop} (H : aw Tryz.prog (tiOf Tryz.prog) [] [0, 1, 4, 5, 9, 17] (Tryz.f103.body.getD .skip) (postA (tiOf Tryz.prog) #[.tmp 4] K) ⟨E [(0, a0), (1, a1)], h, nx, 18⟩) :
    CallsA Tryz.prog 103 [a0, a1] h nx K := CallsA.intro [] [0, 1, 4, 5, 9, 17] [.tmp 4] mixed Tryz.func103 rfl (by kernel_rfl) ok103 (Nat.le_of_ble_eq_true rfl) rfl (by decide) (by kernel_rfl) H
theorem ok104 : codeOk Tryz.prog [] Tryz.f104.ntmps (Tryz.f104.body.getD .skip) = true := by kernel_rfl
theorem in104 {a0 : AV} {h : Heap} {nx : Nat} {K : AV → Heap → Nat → Prop} (H : aw Tryz.prog (tiOf Tryz.prog) [] [0, 1, 2, 4, 6, 7, 8, 9, 16] (Tryz.f104.body.getD .skip) (postA (tiOf Tryz.prog) #[.tmp 2] K) ⟨E [(0, a0)], h, nx, 27⟩) :
    CallsA Tryz.prog 104 [a0] h nx K := CallsA.intro [] [0, 1, 2, 4, 6, 7, 8, 9, 16] [.tmp 2] mixed Tryz.func104 rfl (by kernel_rfl) ok104 (Nat.le_of_ble_eq_true rfl) rfl (by decide) (by kernel_rfl) H
theorem ok105 : codeOk Tryz.prog [] Tryz.f105.ntmps (Tryz.f105.body.getD .skip) = true := by kernel_rfl
theorem in105 {a0 : AV} {h : Heap} {nx : Nat} {K : AV → Heap → Nat → Prop} (H : aw Tryz.prog (tiOf Tryz.prog) [] [0, 2, 3, 5, 7, 8, 9, 10, 11, 14, 15, 16, 17] (Tryz.f105.body.getD .skip) (postA (tiOf Tryz.prog) #[.tmp 2] K) ⟨E [(0, a0)], h, nx, 31⟩) :
    CallsA Tryz.prog 105 [a0] h nx K := CallsA.intro [] [0, 2, 3, 5, 7, 8, 9, 10, 11, 14, 15, 16, 17] [.tmp 2] mixed Tryz.func105 rfl (by kernel_rfl) ok105 (Nat.le_of_ble_eq_true rfl) rfl (by decide) (by kernel_rfl) H
theorem ok106 : codeOk Tryz.prog [] Tryz.f106.ntmps (Tryz.f106.body.getD .skip) = true := by kernel_rfl
theorem in106 {a0 a1 : AV} {h : Heap} {nx : Nat} {K : AV → Heap → Nat → Prop} (H : aw Tryz.prog (tiOf Tryz.prog) [] [0, 1, 4, 5, 6, 7, 12, 19, 29] (Tryz.f106.body.getD .skip) (postA (tiOf Tryz.prog) #[.tmp 4] K) ⟨E [(0, a0), (1, a1)], h, nx, 42⟩) :
    CallsA Tryz.prog 106 [a0, a1] h nx K := CallsA.intro [] [0, 1, 4, 5, 6, 7, 12, 19, 29] [.tmp 4] mixed Tryz.func106 rfl (by kernel_rfl) ok106 (Nat.le_of_ble_eq_true rfl) rfl (by decide) (by kernel_rfl) H
theorem ok107 : codeOk Tryz.prog [] Tryz.f107.ntmps (Tryz.f107.body.getD .skip) = true := by kernel_rfl
theorem in107 {a0 a1 : AV} {h : Heap} {nx : Nat} {K : AV → Heap → Nat → Prop} (H : aw Tryz.prog (tiOf Tryz.prog) [] [0, 1, 3] (Tryz.f107.body.getD .skip) (postA (tiOf Tryz.prog) #[.tmp 3] K) ⟨E [(0, a0), (1, a1)], h, nx, 8⟩) :
    CallsA Tryz.prog 107 [a0, a1] h nx K := CallsA.intro [] [0, 1, 3] [.tmp 3] mixed Tryz.func107 rfl (by kernel_rfl) ok107 (Nat.le_of_ble_eq_true rfl) rfl (by decide) (by kernel_rfl) H
theorem ok108 : codeOk Tryz.prog [] Tryz.f108.ntmps (Tryz.f108.body.getD .skip) = true := by kernel_rfl
theorem in108 {a0 a1 : AV} {h : Heap} {nx : Nat} {K : AV → Heap → Nat → Prop} (H : aw Tryz.prog (tiOf Tryz.prog) [] [0, 1, 3, 4] (Tryz.f108.body.getD .skip) (postA (tiOf Tryz.prog) #[.tmp 4] K) ⟨E [(0, a0), (1, a1)], h, nx, 8⟩) :
    CallsA Tryz.prog 108 [a0, a1] h nx K := CallsA.intro [] [0, 1, 3, 4] [.tmp 4] mixed Tryz.func108 rfl (by kernel_rfl) ok108 (Nat.le_of_ble_eq_true rfl) rfl (by decide) (by kernel_rfl) H
theorem ok109 : codeOk Tryz.prog [] Tryz.f109.ntmps (Tryz.f109.body.getD .skip) = true := by kernel_rfl
theorem in109 {a0 a1 : AV} {h : Heap} {nx : Nat} {K : AV → Heap → Nat → Prop} (H : aw Tryz.prog (tiOf Tryz.prog) [] [0, 1, 2, 4] (Tryz.f109.body.getD .skip) (postA (tiOf Tryz.prog) #[.tmp 4] K) ⟨E [(0, a0), (1, a1)], h, nx, 18⟩) :
    CallsA Tryz.prog 109 [a0, a1] h nx K := CallsA.intro [] [0, 1, 2, 4] [.tmp 4] mixed Tryz.func109 rfl (by kernel_rfl) ok109 (Nat.le_of_ble_eq_true rfl) rfl (by decide) (by kernel_rfl) H
theorem ok110 : codeOk Tryz.prog [] Tryz.f110.ntmps (Tryz.f110.body.getD .skip) = true := by kernel_rfl
theorem in110 {a0 : AV} {h : Heap} {nx : Nat} {K : AV → Heap → Nat → Prop} (H : aw Tryz.prog (tiOf Tryz.prog) [] [0, 2] (Tryz.f110.body.getD .skip) (postA (tiOf Tryz.prog) #[.cell 2 58] K) ⟨E [(0, a0)], h, nx, 9⟩) :
    CallsA Tryz.prog 110 [a0] h nx K := CallsA.intro [] [0, 2] [.cell 2 58] mixed Tryz.func110 rfl (by kernel_rfl) ok110 (Nat.le_of_ble_eq_true rfl) rfl (by decide) (by kernel_rfl) H
theorem ok111 : codeOk Tryz.prog [] Tryz.f111.ntmps (Tryz.f111.body.getD .skip) = true := by kernel_rfl
theorem in111 {a0 : AV} {h : Heap} {nx : Nat} {K : AV → Heap → Nat → Prop} (H : aw Tryz.prog (tiOf Tryz.prog) [] [0, 1, 2] (Tryz.f111.body.getD .skip) (postA (tiOf Tryz.prog) #[.tmp 2] K) ⟨E [(0, a0)], h, nx, 6⟩) :
    CallsA Tryz.prog 111 [a0] h nx K := CallsA.intro [] [0, 1, 2] [.tmp 2] mixed Tryz.func111 rfl (by kernel_rfl) ok111 (Nat.le_of_ble_eq_true rfl) rfl (by decide) (by kernel_rfl) H
theorem ok112 : codeOk Tryz.prog [] Tryz.f112.ntmps (Tryz.f112.body.getD .skip) = true := by kernel_rfl
theorem in112 {a0 a1 a2 : AV} {h : Heap} {nx : Nat} {K : AV → Heap → Nat → Prop} (H : aw Tryz.prog (tiOf Tryz.prog) [] [0, 1, 2, 4, 5, 6, 7, 8, 28, 29, 35] (Tryz.f112.body.getD .skip) (postA (tiOf Tryz.prog) #[.tmp 6] K) ⟨E [(0, a0), (1, a1), (2, a2)], h, nx, 49⟩) :
    CallsA Tryz.prog 112 [a0, a1, a2] h nx K := CallsA.intro [] [0, 1, 2, 4, 5, 6, 7, 8, 28, 29, 35] [.tmp 6] mixed Tryz.func112 rfl (by kernel_rfl) ok112 (Nat.le_of_ble_eq_true rfl) rfl (by decide) (by kernel_rfl) H
theorem ok113 : codeOk Tryz.prog [] Tryz.f113.ntmps (Tryz.f113.body.getD .skip) = true := by kernel_rfl
theorem in113 {a0 : AV} {h : Heap} {nx : Nat} {K : AV → Heap → Nat → Prop} (H : aw Tryz.prog (tiOf Tryz.prog) [] [0, 2] (Tryz.f113.body.getD .skip) (postA (tiOf Tryz.prog) #[.tmp 2] K) ⟨E [(0, a0)], h, nx, 9⟩) :
    CallsA Tryz.prog 113 [a0] h nx K := CallsA.intro [] [0, 2] [.tmp 2] mixed Tryz.func113 rfl (by kernel_rfl) ok113 (Nat.le_of_ble_eq_true rfl) rfl (by decide) (by kernel_rfl) H
theorem ok114 : codeOk Tryz.prog [] Tryz.f114.ntmps (Tryz.f114.body.getD .skip) = true := by kernel_rfl
theorem in114 {a0 a1 a2 a3 : AV} {h : Heap} {nx : Nat} {K : AV → Heap → Nat → Prop} (H : aw Tryz.prog (tiOf Tryz.prog) [] [0, 1, 2, 3, 4, 6, 7, 8, 9, 10, 11, 12, 13, 16, 20, 45, 52] (Tryz.f114.body.getD .skip) (postA (tiOf Tryz.prog) #[.cell 8 75] K) ⟨E [(0, a0), (1, a1), (2, a2), (3, a3)], h, nx, 84⟩) :
    CallsA Tryz.prog 114 [a0, a1, a2, a3] h nx K := CallsA.intro [] [0, 1, 2, 3, 4, 6, 7, 8, 9, 10, 11, 12, 13, 16, 20, 45, 52] [.cell 8 75] mixed Tryz.func114 rfl (by kernel_rfl) ok114 (Nat.le_of_ble_eq_true rfl) rfl (by decide) (by kernel_rfl) H
theorem ok115 : codeOk Tryz.prog [(8, 14), (16, 3)] Tryz.f115.ntmps (Tryz.f115.body.getD .skip) = true := by kernel_rfl
theorem in115 {a0 a1 a2 a3 : AV} {h : Heap} {nx : Nat} {K : AV → Heap → Nat → Prop} (H : aw Tryz.prog (tiOf Tryz.prog) [(8, 14), (16, 3)] [0, 1, 2, 3, 4, 6, 7, 8, 9, 11, 12, 13, 14, 16, 25, 30, 40, 62, 83, 89] (Tryz.f115.body.getD .skip) (postA (tiOf Tryz.prog) #[.cell 8 75] K) ⟨E [(0, a0), (1, a1), (2, a2), (3, a3)], h, nx, 104⟩) :
    CallsA Tryz.prog 115 [a0, a1, a2, a3] h nx K := CallsA.intro [(8, 14), (16, 3)] [0, 1, 2, 3, 4, 6, 7, 8, 9, 11, 12, 13, 14, 16, 25, 30, 40, 62, 83, 89] [.cell 8 75] mixed Tryz.func115 rfl (by kernel_rfl) ok115 (Nat.le_of_ble_eq_true rfl) rfl (by decide) (by kernel_rfl) H
theorem ok116 : codeOk Tryz.prog [] Tryz.f116.ntmps (Tryz.f116.body.getD .skip) = true := by kernel_rfl
theorem in116 {a0 a1 : AV} {h : Heap} {nx : Nat} {K : AV → Heap → Nat → Prop} (H : aw Tryz.prog (tiOf Tryz.prog) [] [0, 1, 4, 5, 7, 8, 9, 16] (Tryz.f116.body.getD .skip) (postA (tiOf Tryz.prog) #[.tmp 4] K) ⟨E [(0, a0), (1, a1)], h, nx, 19⟩) :
    CallsA Tryz.prog 116 [a0, a1] h nx K := CallsA.intro [] [0, 1, 4, 5, 7, 8, 9, 16] [.tmp 4] mixed Tryz.func116 rfl (by kernel_rfl) ok116 (Nat.le_of_ble_eq_true rfl) rfl (by decide) (by kernel_rfl) H
theorem ok117 : codeOk Tryz.prog [] Tryz.f117.ntmps (Tryz.f117.body.getD .skip) = true := by kernel_rfl
theorem in117 {a0 a1 : AV} {h : Heap} {nx : Nat} {K : AV → Heap → Nat → Prop} (H : aw Tryz.prog (tiOf Tryz.prog) [] [0, 1, 2, 3, 4] (Tryz.f117.body.getD .skip) (postA (tiOf Tryz.prog) #[.cell 4 125] K) ⟨E [(0, a0), (1, a1)], h, nx, 20⟩) :
    CallsA Tryz.prog 117 [a0, a1] h nx K := CallsA.intro [] [0, 1, 2, 3, 4] [.cell 4 125] mixed Tryz.func117 rfl (by kernel_rfl) ok117 (Nat.le_of_ble_eq_true rfl) rfl (by decide) (by kernel_rfl) H
theorem ok118 : codeOk Tryz.prog [] Tryz.f118.ntmps (Tryz.f118.body.getD .skip) = true := by kernel_rfl
theorem in118 {a0 a1 : AV} {h : Heap} {nx : Nat} {K : AV → Heap → Nat → Prop} (H : aw Tryz.prog (tiOf Tryz.prog) [] [0, 1, 2, 4, 5, 18, 27] (Tryz.f118.body.getD .skip) (postA (tiOf Tryz.prog) #[.cell 4 58] K) ⟨E [(0, a0), (1, a1)], h, nx, 35⟩) :
    CallsA Tryz.prog 118 [a0, a1] h nx K := CallsA.intro [] [0, 1, 2, 4, 5, 18, 27] [.cell 4 58] mixed Tryz.func118 rfl (by kernel_rfl) ok118 (Nat.le_of_ble_eq_true rfl) rfl (by decide) (by kernel_rfl) H
theorem ok119 : codeOk Tryz.prog [] Tryz.f119.ntmps (Tryz.f119.body.getD .skip) = true := by kernel_rfl
theorem in119 {a0 a1 a2 a3 : AV} {h : Heap} {nx : Nat} {K : AV → Heap → Nat → Prop} (H : aw Tryz.prog (tiOf Tryz.prog) [] [0, 1, 2, 3, 4, 8, 9, 10, 11, 28, 40] (Tryz.f119.body.getD .skip) (postA (tiOf Tryz.prog) #[.cell 8 125] K) ⟨E [(0, a0), (1, a1), (2, a2), (3, a3)], h, nx, 62⟩) :
    CallsA Tryz.prog 119 [a0, a1, a2, a3] h nx K := CallsA.intro [] [0, 1, 2, 3, 4, 8, 9, 10, 11, 28, 40] [.cell 8 125] mixed Tryz.func119 rfl (by kernel_rfl) ok119 (Nat.le_of_ble_eq_true rfl) rfl (by decide) (by kernel_rfl) H
theorem ok120 : codeOk Tryz.prog [] Tryz.f120.ntmps (Tryz.f120.body.getD .skip) = true := by kernel_rfl
theorem in120 {a0 : AV} {h : Heap} {nx : Nat} {K : AV → Heap → Nat → Prop} (H : aw Tryz.prog (tiOf Tryz.prog) [] [0, 1, 2, 6] (Tryz.f120.body.getD .skip) (postA (tiOf Tryz.prog) #[.tmp 2] K) ⟨E [(0, a0)], h, nx, 20⟩) :
    CallsA Tryz.prog 120 [a0] h nx K := CallsA.intro [] [0, 1, 2, 6] [.tmp 2] mixed Tryz.func120 rfl (by kernel_rfl) ok120 (Nat.le_of_ble_eq_true rfl) rfl (by decide) (by kernel_rfl) H
theorem ok121 : codeOk Tryz.prog [] Tryz.f121.ntmps (Tryz.f121.body.getD .skip) = true := by kernel_rfl
theorem in121 {a0 a1 : AV} {h : Heap} {nx : Nat} {K : AV → Heap → Nat → Prop} (H : aw Tryz.prog (tiOf Tryz.prog) [] [0, 1, 3, 4] (Tryz.f121.body.getD .skip) (postA (tiOf Tryz.prog) #[.tmp 4] K) ⟨E [(0, a0), (1, a1)], h, nx, 21⟩) :
    CallsA Tryz.prog 121 [a0, a1] h nx K := CallsA.intro [] [0, 1, 3, 4] [.tmp 4] mixed Tryz.func121 rfl (by kernel_rfl) ok121 (Nat.le_of_ble_eq_true rfl) rfl (by decide) (by kernel_rfl) H
theorem ok122 : codeOk Tryz.prog [] Tryz.f122.ntmps (Tryz.f122.body.getD .skip) = true := by kernel_rfl
theorem in122 {a0 a1 : AV} {h : Heap} {nx : Nat} {K : AV → Heap → Nat → Prop} (H : aw Tryz.prog (tiOf Tryz.prog) [] [0, 1, 2, 4, 10, 18] (Tryz.f122.body.getD .skip) (postA (tiOf Tryz.prog) #[.cell 4 58] K) ⟨E [(0, a0), (1, a1)], h, nx, 25⟩) :
    CallsA Tryz.prog 122 [a0, a1] h nx K := CallsA.intro [] [0, 1, 2, 4, 10, 18] [.cell 4 58] mixed Tryz.func122 rfl (by kernel_rfl) ok122 (Nat.le_of_ble_eq_true rfl) rfl (by decide) (by kernel_rfl) H
theorem ok123 : codeOk Tryz.prog [] Tryz.f123.ntmps (Tryz.f123.body.getD .skip) = true := by kernel_rfl
theorem in123 {a0 a1 a2 a3 : AV} {h : Heap} {nx : Nat} {K : AV → Heap → Nat → Prop} (H : aw Tryz.prog (tiOf Tryz.prog) [] [0, 1, 2, 3, 8, 9, 11, 24] (Tryz.f123.body.getD .skip) (postA (tiOf Tryz.prog) #[.tmp 8] K) ⟨E [(0, a0), (1, a1), (2, a2), (3, a3)], h, nx, 66⟩) :
    CallsA Tryz.prog 123 [a0, a1, a2, a3] h nx K := CallsA.intro [] [0, 1, 2, 3, 8, 9, 11, 24] [.tmp 8] mixed Tryz.func123 rfl (by kernel_rfl) ok123 (Nat.le_of_ble_eq_true rfl) rfl (by decide) (by kernel_rfl) H
theorem ok124 : codeOk Tryz.prog [] Tryz.f124.ntmps (Tryz.f124.body.getD .skip) = true := by kernel_rfl
theorem in124 {a0 : AV} {h : Heap} {nx : Nat} {K : AV → Heap → Nat → Prop} (H : aw Tryz.prog (tiOf Tryz.prog) [] [0, 2, 8] (Tryz.f124.body.getD .skip) (postA (tiOf Tryz.prog) #[.tmp 2] K) ⟨E [(0, a0)], h, nx, 20⟩) :
    CallsA Tryz.prog 124 [a0] h nx K := CallsA.intro [] [0, 2, 8] [.tmp 2] mixed Tryz.func124 rfl (by kernel_rfl) ok124 (Nat.le_of_ble_eq_true rfl) rfl (by decide) (by kernel_rfl) H
theorem ok125 : codeOk Tryz.prog [] Tryz.f125.ntmps (Tryz.f125.body.getD .skip) = true := by kernel_rfl
theorem in125 {a0 a1 : AV} {h : Heap} {nx : Nat} {K : AV → Heap → Nat → Prop} (H : aw Tryz.prog (tiOf Tryz.prog) [] [0, 1, 4, 5, 7, 8, 9, 16] (Tryz.f125.body.getD .skip) (postA (tiOf Tryz.prog) #[.tmp 4] K) ⟨E [(0, a0), (1, a1)], h, nx, 19⟩) :
    CallsA Tryz.prog 125 [a0, a1] h nx K := CallsA.intro [] [0, 1, 4, 5, 7, 8, 9, 16] [.tmp 4] mixed Tryz.func125 rfl (by kernel_rfl) ok125 (Nat.le_of_ble_eq_true rfl) rfl (by decide) (by kernel_rfl) H
theorem ok126 : codeOk Tryz.prog [] Tryz.f126.ntmps (Tryz.f126.body.getD .skip) = true := by kernel_rfl
theorem in126 {a0 a1 : AV} {h : Heap} {nx : Nat} {K : AV → Heap → Nat → Prop} (H : aw Tryz.prog (tiOf Tryz.prog) [] [0, 1, 4] (Tryz.f126.body.getD .skip) (postA (tiOf Tryz.prog) #[.tmp 4] K) ⟨E [(0, a0), (1, a1)], h, nx, 14⟩) :
    CallsA Tryz.prog 126 [a0, a1] h nx K := CallsA.intro [] [0, 1, 4] [.tmp 4] mixed Tryz.func126 rfl (by kernel_rfl) ok126 (Nat.le_of_ble_eq_true rfl) rfl (by decide) (by kernel_rfl) H
theorem ok127 : codeOk Tryz.prog [] Tryz.f127.ntmps (Tryz.f127.body.getD .skip) = true := by kernel_rfl
theorem in127 {a0 a1 a2 : AV} {h : Heap} {nx : Nat} {K : AV → Heap → Nat → Prop} (H : aw Tryz.prog (tiOf Tryz.prog) [] [0, 1, 2, 3, 6, 7, 8, 9, 19, 22, 52, 55, 84] (Tryz.f127.body.getD .skip) (postA (tiOf Tryz.prog) #[.tmp 6] K) ⟨E [(0, a0), (1, a1), (2, a2)], h, nx, 110⟩) :
    CallsA Tryz.prog 127 [a0, a1, a2] h nx K := CallsA.intro [] [0, 1, 2, 3, 6, 7, 8, 9, 19, 22, 52, 55, 84] [.tmp 6] mixed Tryz.func127 rfl (by kernel_rfl) ok127 (Nat.le_of_ble_eq_true rfl) rfl (by decide) (by kernel_rfl) H
theorem ok128 : codeOk Tryz.prog [] Tryz.f128.ntmps (Tryz.f128.body.getD .skip) = true := by kernel_rfl
theorem in128 {a0 a1 : AV} {h : Heap} {nx : Nat} {K : AV → Heap → Nat → Prop} (H : aw Tryz.prog (tiOf Tryz.prog) [] [0, 1, 4] (Tryz.f128.body.getD .skip) (postA (tiOf Tryz.prog) #[.tmp 4] K) ⟨E [(0, a0), (1, a1)], h, nx, 8⟩) :
    CallsA Tryz.prog 128 [a0, a1] h nx K := CallsA.intro [] [0, 1, 4] [.tmp 4] mixed Tryz.func128 rfl (by kernel_rfl) ok128 (Nat.le_of_ble_eq_true rfl) rfl (by decide) (by kernel_rfl) H
theorem ok129 : codeOk Tryz.prog [] Tryz.f129.ntmps (Tryz.f129.body.getD .skip) = true := by kernel_rfl
theorem in129 {a0 a1 : AV} {h : Heap} {nx : Nat} {K : AV → Heap → Nat → Prop} (H : aw Tryz.prog (tiOf Tryz.prog) [] [0, 1, 4, 5, 6, 7, 8, 9, 10, 32] (Tryz.f129.body.getD .skip) (postA (tiOf Tryz.prog) #[.tmp 4] K) ⟨E [(0, a0), (1, a1)], h, nx, 36⟩) :
    CallsA Tryz.prog 129 [a0, a1] h nx K := CallsA.intro [] [0, 1, 4, 5, 6, 7, 8, 9, 10, 32] [.tmp 4] mixed Tryz.func129 rfl (by kernel_rfl) ok129 (Nat.le_of_ble_eq_true rfl) rfl (by decide) (by kernel_rfl) H
theorem ok130 : codeOk Tryz.prog [] Tryz.f130.ntmps (Tryz.f130.body.getD .skip) = true := by kernel_rfl
theorem in130 {a0 : AV} {h : Heap} {nx : Nat} {K : AV → Heap → Nat → Prop} (H : aw Tryz.prog (tiOf Tryz.prog) [] [0, 2] (Tryz.f130.body.getD .skip) (postA (tiOf Tryz.prog) #[.tmp 2] K) ⟨E [(0, a0)], h, nx, 5⟩) :
    CallsA Tryz.prog 130 [a0] h nx K := CallsA.intro [] [0, 2] [.tmp 2] mixed Tryz.func130 rfl (by kernel_rfl) ok130 (Nat.le_of_ble_eq_true rfl) rfl (by decide) (by kernel_rfl) H
theorem ok131 : codeOk Tryz.prog [] Tryz.f131.ntmps (Tryz.f131.body.getD .skip) = true := by kernel_rfl
theorem in131 {a0 : AV} {h : Heap} {nx : Nat} {K : AV → Heap → Nat → Prop} (H : aw Tryz.prog (tiOf Tryz.prog) [] [0, 2] (Tryz.f131.body.getD .skip) (postA (tiOf Tryz.prog) #[] K) ⟨E [(0, a0)], h, nx, 11⟩) :
    CallsA Tryz.prog 131 [a0] h nx K := CallsA.intro [] [0, 2] [] mixed Tryz.func131 rfl (by kernel_rfl) ok131 (Nat.le_of_ble_eq_true rfl) rfl (by decide) (by kernel_rfl) H
theorem ok132 : codeOk Tryz.prog [] Tryz.f132.ntmps (Tryz.f132.body.getD .skip) = true := by kernel_rfl
theorem in132 {a0 : AV} {h : Heap} {nx : Nat} {K : AV → Heap → Nat → Prop} (H : aw Tryz.prog (tiOf Tryz.prog) [] [0, 2, 3, 4, 5, 8, 13, 25, 32, 44] (Tryz.f132.body.getD .skip) (postA (tiOf Tryz.prog) #[.tmp 2] K) ⟨E [(0, a0)], h, nx, 61⟩) :
    CallsA Tryz.prog 132 [a0] h nx K := CallsA.intro [] [0, 2, 3, 4, 5, 8, 13, 25, 32, 44] [.tmp 2] mixed Tryz.func132 rfl (by kernel_rfl) ok132 (Nat.le_of_ble_eq_true rfl) rfl (by decide) (by kernel_rfl) H
theorem ok133 : codeOk Tryz.prog [] Tryz.f133.ntmps (Tryz.f133.body.getD .skip) = true := by kernel_rfl
theorem in133 {a0 a1 : AV} {h : Heap} {nx : Nat} {K : AV → Heap → Nat → Prop} (H : aw Tryz.prog (tiOf Tryz.prog) [] [0, 1, 4, 5, 7, 8, 9, 16] (Tryz.f133.body.getD .skip) (postA (tiOf Tryz.prog) #[.tmp 4] K) ⟨E [(0, a0), (1, a1)], h, nx, 19⟩) :
    CallsA Tryz.prog 133 [a0, a1] h nx K := CallsA.intro [] [0, 1, 4, 5, 7, 8, 9, 16] [.tmp 4] mixed Tryz.func133 rfl (by kernel_rfl) ok133 (Nat.le_of_ble_eq_true rfl) rfl (by decide) (by kernel_rfl) H
theorem ok134 : codeOk Tryz.prog [] Tryz.f134.ntmps (Tryz.f134.body.getD .skip) = true := by kernel_rfl
theorem in134 {a0 a1 : AV} {h : Heap} {nx : Nat} {K : AV → Heap → Nat → Prop} (H : aw Tryz.prog (tiOf Tryz.prog) [] [0, 1, 4] (Tryz.f134.body.getD .skip) (postA (tiOf Tryz.prog) #[.tmp 4] K) ⟨E [(0, a0), (1, a1)], h, nx, 9⟩) :
    CallsA Tryz.prog 134 [a0, a1] h nx K := CallsA.intro [] [0, 1, 4] [.tmp 4] mixed Tryz.func134 rfl (by kernel_rfl) ok134 (Nat.le_of_ble_eq_true rfl) rfl (by decide) (by kernel_rfl) H
theorem ok135 : codeOk Tryz.prog [] Tryz.f135.ntmps (Tryz.f135.body.getD .skip) = true := by kernel_rfl
theorem in135 {a0 a1 : AV} {h : Heap} {nx : Nat} {K : AV → Heap → Nat → Prop} (H : aw Tryz.prog (tiOf Tryz.prog) [] [0, 1, 3] (Tryz.f135.body.getD .skip) (postA (tiOf Tryz.prog) #[.tmp 3] K) ⟨E [(0, a0), (1, a1)], h, nx, 7⟩) :
    CallsA Tryz.prog 135 [a0, a1] h nx K := CallsA.intro [] [0, 1, 3] [.tmp 3] mixed Tryz.func135 rfl (by kernel_rfl) ok135 (Nat.le_of_ble_eq_true rfl) rfl (by decide) (by kernel_rfl) H
theorem ok136 : codeOk Tryz.prog [] Tryz.f136.ntmps (Tryz.f136.body.getD .skip) = true := by kernel_rfl
theorem in136 {a0 a1 : AV} {h : Heap} {nx : Nat} {K : AV → Heap → Nat → Prop} (H : aw Tryz.prog (tiOf Tryz.prog) [] [0, 1, 2, 4, 5, 7, 8, 9, 15] (Tryz.f136.body.getD .skip) (postA (tiOf Tryz.prog) #[.tmp 4] K) ⟨E [(0, a0), (1, a1)], h, nx, 18⟩) :
    CallsA Tryz.prog 136 [a0, a1] h nx K := CallsA.intro [] [0, 1, 2, 4, 5, 7, 8, 9, 15] [.tmp 4] mixed Tryz.func136 rfl (by kernel_rfl) ok136 (Nat.le_of_ble_eq_true rfl) rfl (by decide) (by kernel_rfl) H
theorem ok137 : codeOk Tryz.prog [] Tryz.f137.ntmps (Tryz.f137.body.getD .skip) = true := by kernel_rfl
theorem in137 {a0 a1 : AV} {h : Heap} {nx : Nat} {K : AV → Heap → Nat → Prop} (H : aw Tryz.prog (tiOf Tryz.prog) [] [0, 1, 4, 5, 15] (Tryz.f137.body.getD .skip) (postA (tiOf Tryz.prog) #[.tmp 4] K) ⟨E [(0, a0), (1, a1)], h, nx, 25⟩) :
    CallsA Tryz.prog 137 [a0, a1] h nx K := CallsA.intro [] [0, 1, 4, 5, 15] [.tmp 4] mixed Tryz.func137 rfl (by kernel_rfl) ok137 (Nat.le_of_ble_eq_true rfl) rfl (by decide) (by kernel_rfl) H
theorem ok138 : codeOk Tryz.prog [] Tryz.f138.ntmps (Tryz.f138.body.getD .skip) = true := by kernel_rfl
theorem in138 {a0 a1 a2 a3 : AV} {h : Heap} {nx : Nat} {K : AV → Heap → Nat → Prop} (H : aw Tryz.prog (tiOf Tryz.prog) [] [0, 1, 2, 3, 4, 8] (Tryz.f138.body.getD .skip) (postA (tiOf Tryz.prog) #[.cell 8 75] K) ⟨E [(0, a0), (1, a1), (2, a2), (3, a3)], h, nx, 19⟩) :
    CallsA Tryz.prog 138 [a0, a1, a2, a3] h nx K := CallsA.intro [] [0, 1, 2, 3, 4, 8] [.cell 8 75] mixed Tryz.func138 rfl (by kernel_rfl) ok138 (Nat.le_of_ble_eq_true rfl) rfl (by decide) (by kernel_rfl) H
theorem ok139 : codeOk Tryz.prog [] Tryz.f139.ntmps (Tryz.f139.body.getD .skip) = true := by kernel_rfl
theorem in139 {a0 : AV} {h : Heap} {nx : Nat} {K : AV → Heap → Nat → Prop} (H : aw Tryz.prog (tiOf Tryz.prog) [] [0, 2] (Tryz.f139.body.getD .skip) (postA (tiOf Tryz.prog) #[.tmp 2] K) ⟨E [(0, a0)], h, nx, 6⟩) :
    CallsA Tryz.prog 139 [a0] h nx K := CallsA.intro [] [0, 2] [.tmp 2] mixed Tryz.func139 rfl (by kernel_rfl) ok139 (Nat.le_of_ble_eq_true rfl) rfl (by decide) (by kernel_rfl) H
theorem ok140 : codeOk Tryz.prog [] Tryz.f140.ntmps (Tryz.f140.body.getD .skip) = true := by kernel_rfl
theorem in140 {a0 a1 a2 : AV} {h : Heap} {nx : Nat} {K : AV → Heap → Nat → Prop} (H : aw Tryz.prog (tiOf Tryz.prog) [] [0, 1, 2, 6, 7, 18] (Tryz.f140.body.getD .skip) (postA (tiOf Tryz.prog) #[.tmp 6, .tmp 7] K) ⟨E [(0, a0), (1, a1), (2, a2)], h, nx, 29⟩) :
    CallsA Tryz.prog 140 [a0, a1, a2] h nx K := CallsA.intro [] [0, 1, 2, 6, 7, 18] [.tmp 6, .tmp 7] mixed Tryz.func140 rfl (by kernel_rfl) ok140 (Nat.le_of_ble_eq_true rfl) rfl (by decide) (by kernel_rfl) H
theorem ok141 : codeOk Tryz.prog [] Tryz.f141.ntmps (Tryz.f141.body.getD .skip) = true := by kernel_rfl
theorem in141 {a0 : AV} {h : Heap} {nx : Nat} {K : AV → Heap → Nat → Prop} (H : aw Tryz.prog (tiOf Tryz.prog) [] [0, 2, 4] (Tryz.f141.body.getD .skip) (postA (tiOf Tryz.prog) #[.tmp 2] K) ⟨E [(0, a0)], h, nx, 8⟩) :
    CallsA Tryz.prog 141 [a0] h nx K := CallsA.intro [] [0, 2, 4] [.tmp 2] mixed Tryz.func141 rfl (by kernel_rfl) ok141 (Nat.le_of_ble_eq_true rfl) rfl (by decide) (by kernel_rfl) H
theorem ok142 : codeOk Tryz.prog [] Tryz.f142.ntmps (Tryz.f142.body.getD .skip) = true := by kernel_rfl
theorem in142 {a0 : AV} {h : Heap} {nx : Nat} {K : AV → Heap → Nat → Prop} (H : aw Tryz.prog (tiOf Tryz.prog) [] [0, 1, 2] (Tryz.f142.body.getD .skip) (postA (tiOf Tryz.prog) #[.tmp 2] K) ⟨E [(0, a0)], h, nx, 11⟩) :
    CallsA Tryz.prog 142 [a0] h nx K := CallsA.intro [] [0, 1, 2] [.tmp 2] mixed Tryz.func142 rfl (by kernel_rfl) ok142 (Nat.le_of_ble_eq_true rfl) rfl (by decide) (by kernel_rfl) H
theorem ok143 : codeOk Tryz.prog [] Tryz.f143.ntmps (Tryz.f143.body.getD .skip) = true := by kernel_rfl
theorem in143 {a0 a1 a2 : AV} {h : Heap} {nx : Nat} {K : AV → Heap → Nat → Prop} (H : aw Tryz.prog (tiOf Tryz.prog) [] [0, 1, 2, 6, 7, 18] (Tryz.f143.body.getD .skip) (postA (tiOf Tryz.prog) #[.tmp 6, .tmp 7] K) ⟨E [(0, a0), (1, a1), (2, a2)], h, nx, 30⟩) :
    CallsA Tryz.prog 143 [a0, a1, a2] h nx K := CallsA.intro [] [0, 1, 2, 6, 7, 18] [.tmp 6, .tmp 7] mixed Tryz.func143 rfl (by kernel_rfl) ok143 (Nat.le_of_ble_eq_true rfl) rfl (by decide) (by kernel_rfl) H
theorem ok144 : codeOk Tryz.prog [] Tryz.f144.ntmps (Tryz.f144.body.getD .skip) = true := by kernel_rfl
theorem in144 {a0 a1 : AV} {h : Heap} {nx : Nat} {K : AV → Heap → Nat → Prop} (H : aw Tryz.prog (tiOf Tryz.prog) [] [0, 1, 4, 5, 10, 14, 25] (Tryz.f144.body.getD .skip) (postA (tiOf Tryz.prog) #[.tmp 4] K) ⟨E [(0, a0), (1, a1)], h, nx, 26⟩) :
    CallsA Tryz.prog 144 [a0, a1] h nx K := CallsA.intro [] [0, 1, 4, 5, 10, 14, 25] [.tmp 4] mixed Tryz.func144 rfl (by kernel_rfl) ok144 (Nat.le_of_ble_eq_true rfl) rfl (by decide) (by kernel_rfl) H
theorem ok145 : codeOk Tryz.prog [] Tryz.f145.ntmps (Tryz.f145.body.getD .skip) = true := by kernel_rfl
theorem in145 {a0 a1 a2 a3 : AV} {h : Heap} {nx : Nat} {K : AV → Heap → Nat → Prop} (H : aw Tryz.prog (tiOf Tryz.prog) [] [0, 1, 2, 3, 4, 8] (Tryz.f145.body.getD .skip) (postA (tiOf Tryz.prog) #[.tmp 8] K) ⟨E [(0, a0), (1, a1), (2, a2), (3, a3)], h, nx, 23⟩) :
    CallsA Tryz.prog 145 [a0, a1, a2, a3] h nx K := CallsA.intro [] [0, 1, 2, 3, 4, 8] [.tmp 8] mixed Tryz.func145 rfl (by kernel_rfl) ok145 (Nat.le_of_ble_eq_true rfl) rfl (by decide) (by kernel_rfl) H
theorem ok146 : codeOk Tryz.prog [] Tryz.f146.ntmps (Tryz.f146.body.getD .skip) = true := by kernel_rfl
theorem in146 {a0 a1 : AV} {h : Heap} {nx : Nat} {K : AV → Heap → Nat → Prop} (H : aw Tryz.prog (tiOf Tryz.prog) [] [0, 1, 4, 5, 9, 18] (Tryz.f146.body.getD .skip) (postA (tiOf Tryz.prog) #[.tmp 4] K) ⟨E [(0, a0), (1, a1)], h, nx, 19⟩) :
    CallsA Tryz.prog 146 [a0, a1] h nx K := CallsA.intro [] [0, 1, 4, 5, 9, 18] [.tmp 4] mixed Tryz.func146 rfl (by kernel_rfl) ok146 (Nat.le_of_ble_eq_true rfl) rfl (by decide) (by kernel_rfl) H
theorem ok147 : codeOk Tryz.prog [] Tryz.f147.ntmps (Tryz.f147.body.getD .skip) = true := by kernel_rfl
theorem in147 {a0 a1 : AV} {h : Heap} {nx : Nat} {K : AV → Heap → Nat → Prop} (H : aw Tryz.prog (tiOf Tryz.prog) [] [0, 1, 4] (Tryz.f147.body.getD .skip) (postA (tiOf Tryz.prog) #[.tmp 4] K) ⟨E [(0, a0), (1, a1)], h, nx, 14⟩) :
    CallsA Tryz.prog 147 [a0, a1] h nx K := CallsA.intro [] [0, 1, 4] [.tmp 4] mixed Tryz.func147 rfl (by kernel_rfl) ok147 (Nat.le_of_ble_eq_true rfl) rfl (by decide) (by kernel_rfl) H
theorem ok149 : codeOk Tryz.prog [] Tryz.f149.ntmps (Tryz.f149.body.getD .skip) = true := by kernel_rfl
theorem in149 {a0 : AV} {h : Heap} {nx : Nat} {K : AV → Heap → Nat → Prop} (H : aw Tryz.prog (tiOf Tryz.prog) [] [0, 2] (Tryz.f149.body.getD .skip) (postA (tiOf Tryz.prog) #[.tmp 2] K) ⟨E [(0, a0)], h, nx, 8⟩) :
    CallsA Tryz.prog 149 [a0] h nx K := CallsA.intro [] [0, 2] [.tmp 2] mixed Tryz.func149 rfl (by kernel_rfl) ok149 (Nat.le_of_ble_eq_true rfl) rfl (by decide) (by kernel_rfl) H
theorem ok150 : codeOk Tryz.prog [] Tryz.f150.ntmps (Tryz.f150.body.getD .skip) = true := by kernel_rfl
theorem in150 {a0 a1 : AV} {h : Heap} {nx : Nat} {K : AV → Heap → Nat → Prop} (H : aw Tryz.prog (tiOf Tryz.prog) [] [0, 1, 4, 5, 7, 8, 9, 16] (Tryz.f150.body.getD .skip) (postA (tiOf Tryz.prog) #[.tmp 4] K) ⟨E [(0, a0), (1, a1)], h, nx, 19⟩) :
    CallsA Tryz.prog 150 [a0, a1] h nx K := CallsA.intro [] [0, 1, 4, 5, 7, 8, 9, 16] [.tmp 4] mixed Tryz.func150 rfl (by kernel_rfl) ok150 (Nat.le_of_ble_eq_true rfl) rfl (by decide) (by kernel_rfl) H
theorem ok151 : codeOk Tryz.prog [] Tryz.f151.ntmps (Tryz.f151.body.getD .skip) = true := by kernel_rfl
theorem in151 {a0 a1 a2 : AV} {h : Heap} {nx : Nat} {K : AV → Heap → Nat → Prop} (H : aw Tryz.prog (tiOf Tryz.prog) [] [0, 1, 2, 3, 6, 7, 8, 9, 10, 11, 21, 24, 58, 61, 89] (Tryz.f151.body.getD .skip) (postA (tiOf Tryz.prog) #[.tmp 6] K) ⟨E [(0, a0), (1, a1), (2, a2)], h, nx, 105⟩) :
    CallsA Tryz.prog 151 [a0, a1, a2] h nx K := CallsA.intro [] [0, 1, 2, 3, 6, 7, 8, 9, 10, 11, 21, 24, 58, 61, 89] [.tmp 6] mixed Tryz.func151 rfl (by kernel_rfl) ok151 (Nat.le_of_ble_eq_true rfl) rfl (by decide) (by kernel_rfl) H
theorem ok152 : codeOk Tryz.prog [] Tryz.f152.ntmps (Tryz.f152.body.getD .skip) = true := by kernel_rfl
theorem in152 {a0 a1 : AV} {h : Heap} {nx : Nat} {K : AV → Heap → Nat → Prop} (H : aw Tryz.prog (tiOf Tryz.prog) [] [0, 1, 4, 5, 6, 7, 13, 22, 30] (Tryz.f152.body.getD .skip) (postA (tiOf Tryz.prog) #[.tmp 4, .tmp 5] K) ⟨E [(0, a0), (1, a1)], h, nx, 38⟩) :
    CallsA Tryz.prog 152 [a0, a1] h nx K := CallsA.intro [] [0, 1, 4, 5, 6, 7, 13, 22, 30] [.tmp 4, .tmp 5] mixed Tryz.func152 rfl (by kernel_rfl) ok152 (Nat.le_of_ble_eq_true rfl) rfl (by decide) (by kernel_rfl) H
theorem ok153 : codeOk Tryz.prog [] Tryz.f153.ntmps (Tryz.f153.body.getD .skip) = true := by kernel_rfl
theorem in153 {a0 a1 : AV} {h : Heap} {nx : Nat} {K : AV → Heap → Nat → Prop} (H : aw Tryz.prog (tiOf Tryz.prog) [] [0, 1, 4, 5, 6, 11, 20] (Tryz.f153.body.getD .skip) (postA (tiOf Tryz.prog) #[.tmp 4] K) ⟨E [(0, a0), (1, a1)], h, nx, 29⟩) :
    CallsA Tryz.prog 153 [a0, a1] h nx K := CallsA.intro [] [0, 1, 4, 5, 6, 11, 20] [.tmp 4] mixed Tryz.func153 rfl (by kernel_rfl) ok153 (Nat.le_of_ble_eq_true rfl) rfl (by decide) (by kernel_rfl) H
theorem ok154 : codeOk Tryz.prog [] Tryz.f154.ntmps (Tryz.f154.body.getD .skip) = true := by kernel_rfl
theorem in154 {a0 : AV} {h : Heap} {nx : Nat} {K : AV → Heap → Nat → Prop} (H : aw Tryz.prog (tiOf Tryz.prog) [] [0, 2, 3, 4, 5, 15, 28] (Tryz.f154.body.getD .skip) (postA (tiOf Tryz.prog) #[.tmp 2, .tmp 3] K) ⟨E [(0, a0)], h, nx, 30⟩) :
    CallsA Tryz.prog 154 [a0] h nx K := CallsA.intro [] [0, 2, 3, 4, 5, 15, 28] [.tmp 2, .tmp 3] mixed Tryz.func154 rfl (by kernel_rfl) ok154 (Nat.le_of_ble_eq_true rfl) rfl (by decide) (by kernel_rfl) H
theorem ok155 : codeOk Tryz.prog [] Tryz.f155.ntmps (Tryz.f155.body.getD .skip) = true := by kernel_rfl
theorem in155 {a0 : AV} {h : Heap} {nx : Nat} {K : AV → Heap → Nat → Prop} (H : aw Tryz.prog (tiOf Tryz.prog) [] [0, 2, 3, 5, 6, 8, 9, 10, 11, 12, 20, 25, 26, 27, 28] (Tryz.f155.body.getD .skip) (postA (tiOf Tryz.prog) #[.tmp 2] K) ⟨E [(0, a0)], h, nx, 36⟩) :
    CallsA Tryz.prog 155 [a0] h nx K := CallsA.intro [] [0, 2, 3, 5, 6, 8, 9, 10, 11, 12, 20, 25, 26, 27, 28] [.tmp 2] mixed Tryz.func155 rfl (by kernel_rfl) ok155 (Nat.le_of_ble_eq_true rfl) rfl (by decide) (by kernel_rfl) H
theorem ok156 : codeOk Tryz.prog [] Tryz.f156.ntmps (Tryz.f156.body.getD .skip) = true := by kernel_rfl
theorem in156 {a0 a1 : AV} {h : Heap} {nx : Nat} {K : AV → Heap → Nat → Prop} (H : aw Tryz.prog (tiOf Tryz.prog) [] [0, 1, 3, 4] (Tryz.f156.body.getD .skip) (postA (tiOf Tryz.prog) #[.tmp 4] K) ⟨E [(0, a0), (1, a1)], h, nx, 9⟩) :
    CallsA Tryz.prog 156 [a0, a1] h nx K := CallsA.intro [] [0, 1, 3, 4] [.tmp 4] mixed Tryz.func156 rfl (by kernel_rfl) ok156 (Nat.le_of_ble_eq_true rfl) rfl (by decide) (by kernel_rfl) H
theorem ok163 : codeOk Tryz.prog [] Tryz.f163.ntmps (Tryz.f163.body.getD .skip) = true := by kernel_rfl
theorem in163 {a0 a1 : AV} {h : Heap} {nx : Nat} {K : AV → Heap → Nat → Prop} (H : aw Tryz.prog (tiOf Tryz.prog) [] [0, 1, 4] (Tryz.f163.body.getD .skip) (postA (tiOf Tryz.prog) #[.tmp 4] K) ⟨E [(0, a0), (1, a1)], h, nx, 17⟩) :
    CallsA Tryz.prog 163 [a0, a1] h nx K := CallsA.intro [] [0, 1, 4] [.tmp 4] mixed Tryz.func163 rfl (by kernel_rfl) ok163 (Nat.le_of_ble_eq_true rfl) rfl (by decide) (by kernel_rfl) H
theorem ok166 : codeOk Tryz.prog [] Tryz.f166.ntmps (Tryz.f166.body.getD .skip) = true := by kernel_rfl
theorem in166 {a0 : AV} {h : Heap} {nx : Nat} {K : AV → Heap → Nat → Prop} (H : aw Tryz.prog (tiOf Tryz.prog) [] [0, 2, 4, 8] (Tryz.f166.body.getD .skip) (postA (tiOf Tryz.prog) #[.tmp 2] K) ⟨E [(0, a0)], h, nx, 19⟩) :
    CallsA Tryz.prog 166 [a0] h nx K := CallsA.intro [] [0, 2, 4, 8] [.tmp 2] mixed Tryz.func166 rfl (by kernel_rfl) ok166 (Nat.le_of_ble_eq_true rfl) rfl (by decide) (by kernel_rfl) H
theorem ok167 : codeOk Tryz.prog [] Tryz.f167.ntmps (Tryz.f167.body.getD .skip) = true := by kernel_rfl
theorem in167 {a0 : AV} {h : Heap} {nx : Nat} {K : AV → Heap → Nat → Prop} (H : aw Tryz.prog (tiOf Tryz.prog) [] [0, 2, 4, 8, 14] (Tryz.f167.body.getD .skip) (postA (tiOf Tryz.prog) #[.tmp 2] K) ⟨E [(0, a0)], h, nx, 25⟩) :
    CallsA Tryz.prog 167 [a0] h nx K := CallsA.intro [] [0, 2, 4, 8, 14] [.tmp 2] mixed Tryz.func167 rfl (by kernel_rfl) ok167 (Nat.le_of_ble_eq_true rfl) rfl (by decide) (by kernel_rfl) H
theorem ok168 : codeOk Tryz.prog [] Tryz.f168.ntmps (Tryz.f168.body.getD .skip) = true := by kernel_rfl
theorem in168 {a0 a1 : AV} {h : Heap} {nx : Nat} {K : AV → Heap → Nat → Prop} (H : aw Tryz.prog (tiOf Tryz.prog) [] [0, 1, 4, 5, 10, 12, 13, 14, 24] (Tryz.f168.body.getD .skip) (postA (tiOf Tryz.prog) #[.tmp 4] K) ⟨E [(0, a0), (1, a1)], h, nx, 26⟩) :
    CallsA Tryz.prog 168 [a0, a1] h nx K := CallsA.intro [] [0, 1, 4, 5, 10, 12, 13, 14, 24] [.tmp 4] mixed Tryz.func168 rfl (by kernel_rfl) ok168 (Nat.le_of_ble_eq_true rfl) rfl (by decide) (by kernel_rfl) H
theorem ok169 : codeOk Tryz.prog [] Tryz.f169.ntmps (Tryz.f169.body.getD .skip) = true := by kernel_rfl
theorem in169 {a0 a1 a2 a3 : AV} {h : Heap} {nx : Nat} {K : AV → Heap → Nat → Prop} (H : aw Tryz.prog (tiOf Tryz.prog) [] [0, 1, 2, 3, 4, 8, 9, 25] (Tryz.f169.body.getD .skip) (postA (tiOf Tryz.prog) #[.tmp 8, .tmp 9] K) ⟨E [(0, a0), (1, a1), (2, a2), (3, a3)], h, nx, 31⟩) :
    CallsA Tryz.prog 169 [a0, a1, a2, a3] h nx K := CallsA.intro [] [0, 1, 2, 3, 4, 8, 9, 25] [.tmp 8, .tmp 9] mixed Tryz.func169 rfl (by kernel_rfl) ok169 (Nat.le_of_ble_eq_true rfl) rfl (by decide) (by kernel_rfl) H
theorem ok170 : codeOk Tryz.prog [] Tryz.f170.ntmps (Tryz.f170.body.getD .skip) = true := by kernel_rfl
theorem in170 {a0 a1 : AV} {h : Heap} {nx : Nat} {K : AV → Heap → Nat → Prop} (H : aw Tryz.prog (tiOf Tryz.prog) [] [0, 1, 3, 4] (Tryz.f170.body.getD .skip) (postA (tiOf Tryz.prog) #[.tmp 4] K) ⟨E [(0, a0), (1, a1)], h, nx, 9⟩) :
    CallsA Tryz.prog 170 [a0, a1] h nx K := CallsA.intro [] [0, 1, 3, 4] [.tmp 4] mixed Tryz.func170 rfl (by kernel_rfl) ok170 (Nat.le_of_ble_eq_true rfl) rfl (by decide) (by kernel_rfl) H
theorem ok171 : codeOk Tryz.prog [] Tryz.f171.ntmps (Tryz.f171.body.getD .skip) = true := by kernel_rfl
theorem in171 {a0 a1 : AV} {h : Heap} {nx : Nat} {K : AV → Heap → Nat → Prop} (H : aw Tryz.prog (tiOf Tryz.prog) [] [0, 1, 4] (Tryz.f171.body.getD .skip) (postA (tiOf Tryz.prog) #[.tmp 4] K) ⟨E [(0, a0), (1, a1)], h, nx, 8⟩) :
    CallsA Tryz.prog 171 [a0, a1] h nx K := CallsA.intro [] [0, 1, 4] [.tmp 4] mixed Tryz.func171 rfl (by kernel_rfl) ok171 (Nat.le_of_ble_eq_true rfl) rfl (by decide) (by kernel_rfl) H
theorem ok172 : codeOk Tryz.prog [(4, 0)] Tryz.f172.ntmps (Tryz.f172.body.getD .skip) = true := by kernel_rfl
theorem in172 {a0 a1 : AV} {h : Heap} {nx : Nat} {K : AV → Heap → Nat → Prop} (H : aw Tryz.prog (tiOf Tryz.prog) [(4, 0)] [0, 1, 4, 5, 19] (Tryz.f172.body.getD .skip) (postA (tiOf Tryz.prog) #[.tmp 4] K) ⟨E [(0, a0), (1, a1)], h, nx, 33⟩) :
    CallsA Tryz.prog 172 [a0, a1] h nx K := CallsA.intro [(4, 0)] [0, 1, 4, 5, 19] [.tmp 4] mixed Tryz.func172 rfl (by kernel_rfl) ok172 (Nat.le_of_ble_eq_true rfl) rfl (by decide) (by kernel_rfl) H
theorem ok173 : codeOk Tryz.prog [] Tryz.f173.ntmps (Tryz.f173.body.getD .skip) = true := by kernel_rfl
theorem in173 {a0 a1 : AV} {h : Heap} {nx : Nat} {K : AV → Heap → Nat → Prop} (H : aw Tryz.prog (tiOf Tryz.prog) [] [0, 1, 4] (Tryz.f173.body.getD .skip) (postA (tiOf Tryz.prog) #[] K) ⟨E [(0, a0), (1, a1)], h, nx, 14⟩) :
    CallsA Tryz.prog 173 [a0, a1] h nx K := CallsA.intro [] [0, 1, 4] [] mixed Tryz.func173 rfl (by kernel_rfl) ok173 (Nat.le_of_ble_eq_true rfl) rfl (by decide) (by kernel_rfl) H
theorem ok174 : codeOk Tryz.prog [] Tryz.f174.ntmps (Tryz.f174.body.getD .skip) = true := by kernel_rfl
theorem in174 {a0 a1 : AV} {h : Heap} {nx : Nat} {K : AV → Heap → Nat → Prop} (H : aw Tryz.prog (tiOf Tryz.prog) [] [0, 1, 4] (Tryz.f174.body.getD .skip) (postA (tiOf Tryz.prog) #[.tmp 4] K) ⟨E [(0, a0), (1, a1)], h, nx, 15⟩) :
    CallsA Tryz.prog 174 [a0, a1] h nx K := CallsA.intro [] [0, 1, 4] [.tmp 4] mixed Tryz.func174 rfl (by kernel_rfl) ok174 (Nat.le_of_ble_eq_true rfl) rfl (by decide) (by kernel_rfl) H
theorem ok176 : codeOk Tryz.prog [] Tryz.f176.ntmps (Tryz.f176.body.getD .skip) = true := by kernel_rfl
theorem in176 {a0 a1 : AV} {h : Heap} {nx : Nat} {K : AV → Heap → Nat → Prop} (H : aw Tryz.prog (tiOf Tryz.prog) [] [0, 1, 3] (Tryz.f176.body.getD .skip) (postA (tiOf Tryz.prog) #[.tmp 3] K) ⟨E [(0, a0), (1, a1)], h, nx, 8⟩) :
    CallsA Tryz.prog 176 [a0, a1] h nx K := CallsA.intro [] [0, 1, 3] [.tmp 3] mixed Tryz.func176 rfl (by kernel_rfl) ok176 (Nat.le_of_ble_eq_true rfl) rfl (by decide) (by kernel_rfl) H
theorem ok178 : codeOk Tryz.prog [] Tryz.f178.ntmps (Tryz.f178.body.getD .skip) = true := by kernel_rfl
theorem in178 {a0 : AV} {h : Heap} {nx : Nat} {K : AV → Heap → Nat → Prop} (H : aw Tryz.prog (tiOf Tryz.prog) [] [0, 2] (Tryz.f178.body.getD .skip) (postA (tiOf Tryz.prog) #[.tmp 2] K) ⟨E [(0, a0)], h, nx, 7⟩) :
    CallsA Tryz.prog 178 [a0] h nx K := CallsA.intro [] [0, 2] [.tmp 2] mixed Tryz.func178 rfl (by kernel_rfl) ok178 (Nat.le_of_ble_eq_true rfl) rfl (by decide) (by kernel_rfl) H
theorem ok179 : codeOk Tryz.prog [] Tryz.f179.ntmps (Tryz.f179.body.getD .skip) = true := by kernel_rfl
theorem in179 {a0 : AV} {h : Heap} {nx : Nat} {K : AV → Heap → Nat → Prop} (H : aw Tryz.prog (tiOf Tryz.prog) [] [0, 2] (Tryz.f179.body.getD .skip) (postA (tiOf Tryz.prog) #[.tmp 2] K) ⟨E [(0, a0)], h, nx, 33⟩) :
    CallsA Tryz.prog 179 [a0] h nx K := CallsA.intro [] [0, 2] [.tmp 2] mixed Tryz.func179 rfl (by kernel_rfl) ok179 (Nat.le_of_ble_eq_true rfl) rfl (by decide) (by kernel_rfl) H
theorem ok182 : codeOk Tryz.prog [] Tryz.f182.ntmps (Tryz.f182.body.getD .skip) = true := by kernel_rfl
theorem in182 {a0 : AV} {h : Heap} {nx : Nat} {K : AV → Heap → Nat → Prop} (H : aw Tryz.prog (tiOf Tryz.prog) [] [0, 2] (Tryz.f182.body.getD .skip) (postA (tiOf Tryz.prog) #[.tmp 2] K) ⟨E [(0, a0)], h, nx, 6⟩) :
    CallsA Tryz.prog 182 [a0] h nx K := CallsA.intro [] [0, 2] [.tmp 2] mixed Tryz.func182 rfl (by kernel_rfl) ok182 (Nat.le_of_ble_eq_true rfl) rfl (by decide) (by kernel_rfl) H
theorem ok183 : codeOk Tryz.prog [] Tryz.f183.ntmps (Tryz.f183.body.getD .skip) = true := by kernel_rfl
theorem in183 {a0 a1 : AV} {h : Heap} {nx : Nat} {K : AV → Heap → Nat → Prop} (H : aw Tryz.prog (tiOf Tryz.prog) [] [0, 1, 4] (Tryz.f183.body.getD .skip) (postA (tiOf Tryz.prog) #[.tmp 4] K) ⟨E [(0, a0), (1, a1)], h, nx, 9⟩) :
    CallsA Tryz.prog 183 [a0, a1] h nx K := CallsA.intro [] [0, 1, 4] [.tmp 4] mixed Tryz.func183 rfl (by kernel_rfl) ok183 (Nat.le_of_ble_eq_true rfl) rfl (by decide) (by kernel_rfl) H
theorem ok184 : codeOk Tryz.prog [] Tryz.f184.ntmps (Tryz.f184.body.getD .skip) = true := by kernel_rfl
theorem in184 {a0 a1 : AV} {h : Heap} {nx : Nat} {K : AV → Heap → Nat → Prop} (H : aw Tryz.prog (tiOf Tryz.prog) [] [0, 1, 3] (Tryz.f184.body.getD .skip) (postA (tiOf Tryz.prog) #[.tmp 3] K) ⟨E [(0, a0), (1, a1)], h, nx, 8⟩) :
    CallsA Tryz.prog 184 [a0, a1] h nx K := CallsA.intro [] [0, 1, 3] [.tmp 3] mixed Tryz.func184 rfl (by kernel_rfl) ok184 (Nat.le_of_ble_eq_true rfl) rfl (by decide) (by kernel_rfl) H
theorem ok186 : codeOk Tryz.prog [] Tryz.f186.ntmps (Tryz.f186.body.getD .skip) = true := by kernel_rfl
theorem in186 {a0 : AV} {h : Heap} {nx : Nat} {K : AV → Heap → Nat → Prop} (H : aw Tryz.prog (tiOf Tryz.prog) [] [0, 2, 3, 5, 6, 7, 8, 9, 14] (Tryz.f186.body.getD .skip) (postA (tiOf Tryz.prog) #[.tmp 2] K) ⟨E [(0, a0)], h, nx, 18⟩) :
    CallsA Tryz.prog 186 [a0] h nx K := CallsA.intro [] [0, 2, 3, 5, 6, 7, 8, 9, 14] [.tmp 2] mixed Tryz.func186 rfl (by kernel_rfl) ok186 (Nat.le_of_ble_eq_true rfl) rfl (by decide) (by kernel_rfl) H
theorem ok187 : codeOk Tryz.prog [] Tryz.f187.ntmps (Tryz.f187.body.getD .skip) = true := by kernel_rfl
theorem in187 {a0 a1 : AV} {h : Heap} {nx : Nat} {K : AV → Heap → Nat → Prop} (H : aw Tryz.prog (tiOf Tryz.prog) [] [0, 1, 4, 5, 6, 11, 12, 13, 16, 19] (Tryz.f187.body.getD .skip) (postA (tiOf Tryz.prog) #[.tmp 4] K) ⟨E [(0, a0), (1, a1)], h, nx, 20⟩) :
    CallsA Tryz.prog 187 [a0, a1] h nx K := CallsA.intro [] [0, 1, 4, 5, 6, 11, 12, 13, 16, 19] [.tmp 4] mixed Tryz.func187 rfl (by kernel_rfl) ok187 (Nat.le_of_ble_eq_true rfl) rfl (by decide) (by kernel_rfl) H
end Go.Proofs.YtogdmmccbeipkaaGreat.A
