/- PRINTED BY genenv.py (my own): the seat's types and functions, as Ax wants them. -/
import Derived.Test.YtkekijhpolgcmaaAxM1
import Derived.Test.YtkekijhpolgcmaaProg
namespace Go.Proofs.Ytkekijhpolgcmaa.X
open Go Go.Ax
def ti : Nat → TI
  | 0 => { k := .tuple, sz := 1, by_ := 0, zero := [] }
  | 1 => { k := .func, sz := 1, by_ := 8, zero := [.v .nilf] }
  | 2 => { k := .int .i64, sz := 1, by_ := 8, zero := [.v (.int .i64 0)] }
  | 3 => { k := .int .i64, sz := 1, by_ := 8, zero := [.v (.int .i64 0)] }
  | 4 => { k := .bool, sz := 1, by_ := 1, zero := [.v (.bool false)] }
  | 5 => { k := .int .u8, sz := 1, by_ := 1, zero := [.v (.int .u8 0)] }
  | 6 => { k := .int .u8, sz := 1, by_ := 1, zero := [.v (.int .u8 0)] }
  | 7 => { k := .struct [(0, 2), (1, 3), (2, 4), (3, 6)], sz := 4, by_ := 24, zero := [.v (.int .i64 0), .v (.int .i64 0), .v (.bool false), .v (.int .u8 0)] }
  | 8 => { k := .struct [(0, 2), (1, 3), (2, 4), (3, 6)], sz := 4, by_ := 24, zero := [.v (.int .i64 0), .v (.int .i64 0), .v (.bool false), .v (.int .u8 0)] }
  | 9 => { k := .str, sz := 1, by_ := 16, zero := [.v (.str [])] }
  | 10 => { k := .str, sz := 1, by_ := 16, zero := [.v (.str [])] }
  | 11 => { k := .str, sz := 1, by_ := 16, zero := [.v (.str [])] }
  | 12 => { k := .int .u64, sz := 1, by_ := 8, zero := [.v (.int .u64 0)] }
  | 13 => { k := .struct [(0, 9), (1, 12)], sz := 2, by_ := 24, zero := [.v (.str []), .v (.int .u64 0)] }
  | 14 => { k := .struct [(0, 9), (1, 12)], sz := 2, by_ := 24, zero := [.v (.str []), .v (.int .u64 0)] }
  | 15 => { k := .ptr 93, sz := 1, by_ := 8, zero := [.v .nilp] }
  | 16 => { k := .ptr 96, sz := 1, by_ := 8, zero := [.v .nilp] }
  | 17 => { k := .ptr 104, sz := 1, by_ := 8, zero := [.v .nilp] }
  | 18 => { k := .struct [(0, 17)], sz := 1, by_ := 8, zero := [.v .nilp] }
  | 19 => { k := .struct [(0, 17)], sz := 1, by_ := 8, zero := [.v .nilp] }
  | 20 => { k := .iface, sz := 1, by_ := 16, zero := [.v .nili] }
  | 21 => { k := .int .i32, sz := 1, by_ := 4, zero := [.v (.int .i32 0)] }
  | 22 => { k := .slice 9, sz := 1, by_ := 24, zero := [.own 0 1 []] }
  | 23 => { k := .slice 25, sz := 1, by_ := 24, zero := [.own 0 5 []] }
  | 24 => { k := .struct [(0, 3), (1, 3), (2, 9), (3, 22), (4, 23)], sz := 5, by_ := 80, zero := [.v (.int .i64 0), .v (.int .i64 0), .v (.str []), .own 0 1 [], .own 0 5 []] }
  | 25 => { k := .struct [(0, 3), (1, 3), (2, 9), (3, 22), (4, 23)], sz := 5, by_ := 80, zero := [.v (.int .i64 0), .v (.int .i64 0), .v (.str []), .own 0 1 [], .own 0 5 []] }
  | 26 => { k := .func, sz := 1, by_ := 8, zero := [.v .nilf] }
  | 27 => { k := .int .i64, sz := 1, by_ := 8, zero := [.v (.int .i64 0)] }
  | 28 => { k := .tuple, sz := 1, by_ := 0, zero := [] }
  | 29 => { k := .func, sz := 1, by_ := 8, zero := [.v .nilf] }
  | 30 => { k := .func, sz := 1, by_ := 8, zero := [.v .nilf] }
  | 31 => { k := .func, sz := 1, by_ := 8, zero := [.v .nilf] }
  | 32 => { k := .func, sz := 1, by_ := 8, zero := [.v .nilf] }
  | 33 => { k := .func, sz := 1, by_ := 8, zero := [.v .nilf] }
  | 34 => { k := .ptr 40, sz := 1, by_ := 8, zero := [.v .nilp] }
  | 35 => { k := .ptr 38, sz := 1, by_ := 8, zero := [.v .nilp] }
  | 36 => { k := .slice 5, sz := 1, by_ := 24, zero := [.own 0 1 []] }
  | 37 => { k := .struct [(0, 35), (1, 36)], sz := 2, by_ := 32, zero := [.v .nilp, .own 0 1 []] }
  | 38 => { k := .struct [(0, 35), (1, 36)], sz := 2, by_ := 32, zero := [.v .nilp, .own 0 1 []] }
  | 39 => { k := .struct [(0, 38)], sz := 2, by_ := 32, zero := [.v .nilp, .own 0 1 []] }
  | 40 => { k := .struct [(0, 38)], sz := 2, by_ := 32, zero := [.v .nilp, .own 0 1 []] }
  | 41 => { k := .func, sz := 1, by_ := 8, zero := [.v .nilf] }
  | 42 => { k := .func, sz := 1, by_ := 8, zero := [.v .nilf] }
  | 43 => { k := .func, sz := 1, by_ := 8, zero := [.v .nilf] }
  | 44 => { k := .func, sz := 1, by_ := 8, zero := [.v .nilf] }
  | 45 => { k := .tuple, sz := 1, by_ := 0, zero := [] }
  | 46 => { k := .func, sz := 1, by_ := 8, zero := [.v .nilf] }
  | 47 => { k := .func, sz := 1, by_ := 8, zero := [.v .nilf] }
  | 48 => { k := .func, sz := 1, by_ := 8, zero := [.v .nilf] }
  | 49 => { k := .func, sz := 1, by_ := 8, zero := [.v .nilf] }
  | 50 => { k := .func, sz := 1, by_ := 8, zero := [.v .nilf] }
  | 51 => { k := .func, sz := 1, by_ := 8, zero := [.v .nilf] }
  | 52 => { k := .func, sz := 1, by_ := 8, zero := [.v .nilf] }
  | 53 => { k := .func, sz := 1, by_ := 8, zero := [.v .nilf] }
  | 54 => { k := .iface, sz := 1, by_ := 16, zero := [.v .nili] }
  | 55 => { k := .iface, sz := 1, by_ := 16, zero := [.v .nili] }
  | 56 => { k := .tuple, sz := 1, by_ := 0, zero := [] }
  | 57 => { k := .func, sz := 1, by_ := 8, zero := [.v .nilf] }
  | 58 => { k := .func, sz := 1, by_ := 8, zero := [.v .nilf] }
  | 59 => { k := .func, sz := 1, by_ := 8, zero := [.v .nilf] }
  | 60 => { k := .ptr 5, sz := 1, by_ := 8, zero := [.v .nilp] }
  | 61 => { k := .ptr 63, sz := 1, by_ := 8, zero := [.v .nilp] }
  | 62 => { k := .struct [(0, 9), (1, 3), (2, 3), (3, 27)], sz := 4, by_ := 40, zero := [.v (.str []), .v (.int .i64 0), .v (.int .i64 0), .v (.int .i64 0)] }
  | 63 => { k := .struct [(0, 9), (1, 3), (2, 3), (3, 27)], sz := 4, by_ := 40, zero := [.v (.str []), .v (.int .i64 0), .v (.int .i64 0), .v (.int .i64 0)] }
  | 64 => { k := .func, sz := 1, by_ := 8, zero := [.v .nilf] }
  | 65 => { k := .func, sz := 1, by_ := 8, zero := [.v .nilf] }
  | 66 => { k := .func, sz := 1, by_ := 8, zero := [.v .nilf] }
  | 67 => { k := .func, sz := 1, by_ := 8, zero := [.v .nilf] }
  | 68 => { k := .func, sz := 1, by_ := 8, zero := [.v .nilf] }
  | 69 => { k := .func, sz := 1, by_ := 8, zero := [.v .nilf] }
  | 70 => { k := .func, sz := 1, by_ := 8, zero := [.v .nilf] }
  | 71 => { k := .array 16 5, sz := 16, by_ := 16, zero := [.v (.int .u8 0), .v (.int .u8 0), .v (.int .u8 0), .v (.int .u8 0), .v (.int .u8 0), .v (.int .u8 0), .v (.int .u8 0), .v (.int .u8 0), .v (.int .u8 0), .v (.int .u8 0), .v (.int .u8 0), .v (.int .u8 0), .v (.int .u8 0), .v (.int .u8 0), .v (.int .u8 0), .v (.int .u8 0)] }
  | 72 => { k := .func, sz := 1, by_ := 8, zero := [.v .nilf] }
  | 73 => { k := .int .u64, sz := 1, by_ := 8, zero := [.v (.int .u64 0)] }
  | 74 => { k := .func, sz := 1, by_ := 8, zero := [.v .nilf] }
  | 75 => { k := .func, sz := 1, by_ := 8, zero := [.v .nilf] }
  | 76 => { k := .map 5 75, sz := 1, by_ := 8, zero := [.v (.mp [] [])] }
  | 77 => { k := .func, sz := 1, by_ := 8, zero := [.v .nilf] }
  | 78 => { k := .func, sz := 1, by_ := 8, zero := [.v .nilf] }
  | 79 => { k := .func, sz := 1, by_ := 8, zero := [.v .nilf] }
  | 80 => { k := .other, sz := 1, by_ := 8, zero := [] }
  | 81 => { k := .func, sz := 1, by_ := 8, zero := [.v .nilf] }
  | 82 => { k := .func, sz := 1, by_ := 8, zero := [.v .nilf] }
  | 83 => { k := .func, sz := 1, by_ := 8, zero := [.v .nilf] }
  | 84 => { k := .func, sz := 1, by_ := 8, zero := [.v .nilf] }
  | 85 => { k := .func, sz := 1, by_ := 8, zero := [.v .nilf] }
  | 86 => { k := .func, sz := 1, by_ := 8, zero := [.v .nilf] }
  | 87 => { k := .func, sz := 1, by_ := 8, zero := [.v .nilf] }
  | 88 => { k := .tuple, sz := 1, by_ := 0, zero := [] }
  | 89 => { k := .map 5 5, sz := 1, by_ := 8, zero := [.v (.mp [] [])] }
  | 90 => { k := .func, sz := 1, by_ := 8, zero := [.v .nilf] }
  | 91 => { k := .func, sz := 1, by_ := 8, zero := [.v .nilf] }
  | 92 => { k := .struct [(0, 17), (1, 17), (2, 17), (3, 9)], sz := 4, by_ := 40, zero := [.v .nilp, .v .nilp, .v .nilp, .v (.str [])] }
  | 93 => { k := .struct [(0, 17), (1, 17), (2, 17), (3, 9)], sz := 4, by_ := 40, zero := [.v .nilp, .v .nilp, .v .nilp, .v (.str [])] }
  | 94 => { k := .array 0 16, sz := 0, by_ := 0, zero := [] }
  | 95 => { k := .struct [(0, 94)], sz := 0, by_ := 0, zero := [] }
  | 96 => { k := .struct [(0, 94)], sz := 0, by_ := 0, zero := [] }
  | 97 => { k := .int .u32, sz := 1, by_ := 4, zero := [.v (.int .u32 0)] }
  | 98 => { k := .int .u8, sz := 1, by_ := 1, zero := [.v (.int .u8 0)] }
  | 99 => { k := .int .u8, sz := 1, by_ := 1, zero := [.v (.int .u8 0)] }
  | 100 => { k := .func, sz := 1, by_ := 8, zero := [.v .nilf] }
  | 101 => { k := .int .i32, sz := 1, by_ := 4, zero := [.v (.int .i32 0)] }
  | 102 => { k := .int .i32, sz := 1, by_ := 4, zero := [.v (.int .i32 0)] }
  | 103 => { k := .struct [(0, 12), (1, 12), (2, 97), (3, 98), (4, 5), (5, 5), (6, 99), (7, 100), (8, 60), (9, 101), (10, 102)], sz := 11, by_ := 48, zero := [.v (.int .u64 0), .v (.int .u64 0), .v (.int .u32 0), .v (.int .u8 0), .v (.int .u8 0), .v (.int .u8 0), .v (.int .u8 0), .v .nilf, .v .nilp, .v (.int .i32 0), .v (.int .i32 0)] }
  | 104 => { k := .struct [(0, 12), (1, 12), (2, 97), (3, 98), (4, 5), (5, 5), (6, 99), (7, 100), (8, 60), (9, 101), (10, 102)], sz := 11, by_ := 48, zero := [.v (.int .u64 0), .v (.int .u64 0), .v (.int .u32 0), .v (.int .u8 0), .v (.int .u8 0), .v (.int .u8 0), .v (.int .u8 0), .v .nilf, .v .nilp, .v (.int .i32 0), .v (.int .i32 0)] }
  | _ => default
noncomputable def fd (f : Func) (a : Ann) : Option FnD := f.body.map fun b => { np := f.params.size + f.nfree, nt := f.ntmps, results := f.results.toList, body := b, ann := a }
def ann2 : Ann := { regs := [], keep := [] }
def ann3 : Ann := { regs := [1], keep := [] }
def ann4 : Ann := { regs := [2, 4, 5], keep := [(5, { tm := [(1, 0), (2, 0), (4, 0), (5, 0), (6, 0)], lc := [(2, []), (4, []), (5, [0, 0, 0, 1327300608, 1327366144])], mp := [], it := [] }), (12, { tm := [(1, 0), (2, 0), (4, 0), (5, 0), (8, 0)], lc := [(2, []), (4, []), (5, [0, 0, 0, 1327300608, 1327366144])], mp := [], it := [] })] }
def ann5 : Ann := { regs := [1], keep := [] }
def ann6 : Ann := { regs := [2], keep := [(17, { tm := [(1, 0), (2, 0), (5, 0), (6, 0)], lc := [(2, [])], mp := [], it := [] }), (22, { tm := [(1, 0), (2, 0), (5, 0), (6, 0), (8, 0)], lc := [(2, [])], mp := [], it := [] }), (26, { tm := [(1, 0), (2, 0), (5, 0), (9, 0)], lc := [(2, [])], mp := [], it := [] })] }
def ann7 : Ann := { regs := [1, 5], keep := [] }
def ann8 : Ann := { regs := [1], keep := [(14, { tm := [(1, 0), (3, 0), (4, 0)], lc := [(1, [])], mp := [], it := [] })] }
def ann9 : Ann := { regs := [2], keep := [(7, { tm := [(2, 0), (3, 0), (70, 0), (71, 0), (72, 0)], lc := [(2, [])], mp := [], it := [] })] }
def ann10 : Ann := { regs := [3], keep := [] }
def ann11 : Ann := { regs := [], keep := [] }
def ann12 : Ann := { regs := [], keep := [] }
def ann13 : Ann := { regs := [], keep := [(2, { tm := [(0, 0), (3, 0)], lc := [], mp := [], it := [] })] }
def ann14 : Ann := { regs := [2, 5], keep := [] }
def ann15 : Ann := { regs := [], keep := [(6, { tm := [(0, 0), (3, 0)], lc := [], mp := [], it := [] })] }
def ann16 : Ann := { regs := [], keep := [(4, { tm := [(0, 0), (3, 0), (4, 0), (5, 0)], lc := [], mp := [], it := [] })] }
def ann17 : Ann := { regs := [1], keep := [] }
def ann18 : Ann := { regs := [], keep := [] }
def ann19 : Ann := { regs := [], keep := [] }
def ann20 : Ann := { regs := [], keep := [] }
def ann21 : Ann := { regs := [], keep := [] }
def ann22 : Ann := { regs := [], keep := [] }
def ann23 : Ann := { regs := [], keep := [] }
def ann24 : Ann := { regs := [2], keep := [] }
def ann25 : Ann := { regs := [], keep := [] }
def ann26 : Ann := { regs := [4], keep := [(5, { tm := [(0, 0), (1, 0), (4, 0), (5, 0)], lc := [(4, [])], mp := [], it := [] })] }
def ann27 : Ann := { regs := [], keep := [(2, { tm := [(0, 0), (1, 0), (11, 0), (12, 0)], lc := [], mp := [], it := [] })] }
def ann28 : Ann := { regs := [3, 6], keep := [(6, { tm := [(0, 0), (3, 0), (4, 0), (17, 0), (18, 0), (19, 0)], lc := [(3, [])], mp := [], it := [] })] }
def ann29 : Ann := { regs := [2, 4], keep := [] }
def ann30 : Ann := { regs := [], keep := [] }
def ann31 : Ann := { regs := [], keep := [] }
def ann32 : Ann := { regs := [], keep := [(2, { tm := [(0, 0), (1, 0), (7, 0), (8, 0)], lc := [], mp := [], it := [] })] }
def ann33 : Ann := { regs := [], keep := [(2, { tm := [(0, 0), (1, 0), (7, 0), (8, 0)], lc := [], mp := [], it := [] })] }
def ann34 : Ann := { regs := [], keep := [(2, { tm := [(0, 0), (1, 0), (7, 0), (8, 0)], lc := [], mp := [], it := [] })] }
def ann35 : Ann := { regs := [], keep := [] }
def ann36 : Ann := { regs := [], keep := [] }
def ann37 : Ann := { regs := [], keep := [] }
def ann38 : Ann := { regs := [], keep := [(0, { tm := [(0, 0)], lc := [], mp := [], it := [] })] }
def ann39 : Ann := { regs := [], keep := [] }
def ann40 : Ann := { regs := [], keep := [] }
def ann41 : Ann := { regs := [2], keep := [(7, { tm := [(0, 0), (2, 0), (3, 0), (4, 0), (5, 0), (6, 0)], lc := [(2, [])], mp := [], it := [] })] }
def ann42 : Ann := { regs := [], keep := [(2, { tm := [(1, 0), (2, 0), (10, 0)], lc := [], mp := [], it := [10] })] }
def ann44 : Ann := { regs := [], keep := [] }
def ann45 : Ann := { regs := [2], keep := [] }
def ann46 : Ann := { regs := [5, 6], keep := [] }
def ann47 : Ann := { regs := [2], keep := [] }
def ann48 : Ann := { regs := [2], keep := [] }
def ann49 : Ann := { regs := [2], keep := [] }
def ann50 : Ann := { regs := [], keep := [(6, { tm := [(0, 0), (3, 655556608)], lc := [], mp := [], it := [] })] }
def ann51 : Ann := { regs := [2, 3], keep := [(12, { tm := [(1, 0), (2, 0), (3, 0), (4, 0), (5, 0)], lc := [(2, []), (3, [0, 0, 0, 1320747008, 1320812544])], mp := [], it := [] })] }
def ann52 : Ann := { regs := [], keep := [] }
def ann53 : Ann := { regs := [], keep := [] }
def ann54 : Ann := { regs := [], keep := [] }
def ann55 : Ann := { regs := [], keep := [] }
def ann56 : Ann := { regs := [], keep := [] }
def ann57 : Ann := { regs := [], keep := [] }
def ann58 : Ann := { regs := [], keep := [] }
def ann60 : Ann := { regs := [], keep := [] }
def ann61 : Ann := { regs := [], keep := [] }
def ann62 : Ann := { regs := [], keep := [] }
noncomputable def fn : FuncId → Option FnD
  | 2 => fd Try.f2 ann2
  | 3 => fd Try.f3 ann3
  | 4 => fd Try.f4 ann4
  | 5 => fd Try.f5 ann5
  | 6 => fd Try.f6 ann6
  | 7 => fd Try.f7 ann7
  | 8 => fd Try.f8 ann8
  | 9 => fd Try.f9 ann9
  | 10 => fd Try.f10 ann10
  | 11 => fd Try.f11 ann11
  | 12 => fd Try.f12 ann12
  | 13 => fd Try.f13 ann13
  | 14 => fd Try.f14 ann14
  | 15 => fd Try.f15 ann15
  | 16 => fd Try.f16 ann16
  | 17 => fd Try.f17 ann17
  | 18 => fd Try.f18 ann18
  | 19 => fd Try.f19 ann19
  | 20 => fd Try.f20 ann20
  | 21 => fd Try.f21 ann21
  | 22 => fd Try.f22 ann22
  | 23 => fd Try.f23 ann23
  | 24 => fd Try.f24 ann24
  | 25 => fd Try.f25 ann25
  | 26 => fd Try.f26 ann26
  | 27 => fd Try.f27 ann27
  | 28 => fd Try.f28 ann28
  | 29 => fd Try.f29 ann29
  | 30 => fd Try.f30 ann30
  | 31 => fd Try.f31 ann31
  | 32 => fd Try.f32 ann32
  | 33 => fd Try.f33 ann33
  | 34 => fd Try.f34 ann34
  | 35 => fd Try.f35 ann35
  | 36 => fd Try.f36 ann36
  | 37 => fd Try.f37 ann37
  | 38 => fd Try.f38 ann38
  | 39 => fd Try.f39 ann39
  | 40 => fd Try.f40 ann40
  | 41 => fd Try.f41 ann41
  | 42 => fd Try.f42 ann42
  | 44 => fd Try.f44 ann44
  | 45 => fd Try.f45 ann45
  | 46 => fd Try.f46 ann46
  | 47 => fd Try.f47 ann47
  | 48 => fd Try.f48 ann48
  | 49 => fd Try.f49 ann49
  | 50 => fd Try.f50 ann50
  | 51 => fd Try.f51 ann51
  | 52 => fd Try.f52 ann52
  | 53 => fd Try.f53 ann53
  | 54 => fd Try.f54 ann54
  | 55 => fd Try.f55 ann55
  | 56 => fd Try.f56 ann56
  | 57 => fd Try.f57 ann57
  | 58 => fd Try.f58 ann58
  | 60 => fd Try.f60 ann60
  | 61 => fd Try.f61 ann61
  | 62 => fd Try.f62 ann62
  | _ => none
end Go.Proofs.Ytkekijhpolgcmaa.X
