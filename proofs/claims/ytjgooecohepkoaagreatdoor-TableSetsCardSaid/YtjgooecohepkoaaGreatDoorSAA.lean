/- Contracts of the functions that the statement reaches. -/
import Derived.Test.YtjgooecohepkoaaGreatDoorEAO
import Derived.Test.YtjgooecohepkoaaGreatDoorProg
set_option linter.unusedVariables false
set_option linter.unusedSimpArgs false
-- printed by gen_types.py: the types of the program, as the engine wants them
namespace Go.Proofs.YtjgooecohepkoaaGreatDoor
open Go Go.Abs

def t1 : TI := { agg := false, size := 1, bytes := 8, zero := [.v .nilFunc], k := .func, eqok := true, zd := .v .nilFunc }
def t2 : TI := { agg := false, size := 1, bytes := 8, zero := [.v (.int .i64 0)], k := .int .i64, eqok := true, zd := .v (.int .i64 0) }
def t3 : TI := { agg := false, size := 1, bytes := 8, zero := [.v (.int .i64 0)], k := .int .i64, eqok := true, zd := .v (.int .i64 0) }
def t4 : TI := { agg := false, size := 1, bytes := 1, zero := [.v (.bool false)], k := .bool, eqok := true, zd := .v (.bool false) }
def t5 : TI := { agg := false, size := 1, bytes := 1, zero := [.v (.int .u8 0)], k := .int .u8, eqok := true, zd := .v (.int .u8 0) }
def t6 : TI := { agg := false, size := 1, bytes := 1, zero := [.v (.int .u8 0)], k := .int .u8, eqok := true, zd := .v (.int .u8 0) }
def t7 : TI := { agg := true, size := 4, bytes := 24, zero := [.v (.int .i64 0), .v (.int .i64 0), .v (.bool false), .v (.int .u8 0)], k := .struct [(0, 2), (1, 3), (2, 4), (3, 6)], eqok := true, zd := .agg [.v (.int .i64 0), .v (.int .i64 0), .v (.bool false), .v (.int .u8 0)] }
def t8 : TI := { agg := true, size := 4, bytes := 24, zero := [.v (.int .i64 0), .v (.int .i64 0), .v (.bool false), .v (.int .u8 0)], k := .struct [(0, 2), (1, 3), (2, 4), (3, 6)], eqok := true, zd := .agg [.v (.int .i64 0), .v (.int .i64 0), .v (.bool false), .v (.int .u8 0)] }
def t9 : TI := { agg := false, size := 1, bytes := 16, zero := [.s []], k := .str, eqok := true, zd := .s [] }
def t10 : TI := { agg := false, size := 1, bytes := 16, zero := [.s []], k := .str, eqok := true, zd := .s [] }
def t11 : TI := { agg := false, size := 1, bytes := 16, zero := [.s []], k := .str, eqok := true, zd := .s [] }
def t12 : TI := { agg := false, size := 1, bytes := 8, zero := [.v (.int .u64 0)], k := .int .u64, eqok := true, zd := .v (.int .u64 0) }
def t13 : TI := { agg := true, size := 2, bytes := 24, zero := [.s [], .v (.int .u64 0)], k := .struct [(0, 9), (1, 12)], eqok := false, zd := .agg [.s [], .v (.int .u64 0)] }
def t14 : TI := { agg := true, size := 2, bytes := 24, zero := [.s [], .v (.int .u64 0)], k := .struct [(0, 9), (1, 12)], eqok := false, zd := .agg [.s [], .v (.int .u64 0)] }
def t15 : TI := { agg := false, size := 1, bytes := 8, zero := [.v (.pointer none)], k := .ptr 295, eqok := true, zd := .v (.pointer none) }
def t16 : TI := { agg := false, size := 1, bytes := 8, zero := [.v (.pointer none)], k := .ptr 298, eqok := true, zd := .v (.pointer none) }
def t17 : TI := { agg := false, size := 1, bytes := 8, zero := [.v (.pointer none)], k := .ptr 305, eqok := true, zd := .v (.pointer none) }
def t18 : TI := { agg := true, size := 1, bytes := 8, zero := [.v (.pointer none)], k := .struct [(0, 17)], eqok := false, zd := .agg [.v (.pointer none)] }
def t19 : TI := { agg := true, size := 1, bytes := 8, zero := [.v (.pointer none)], k := .struct [(0, 17)], eqok := false, zd := .agg [.v (.pointer none)] }
def t20 : TI := { agg := false, size := 1, bytes := 16, zero := [.v .nilIface], k := .other, eqok := true, zd := .v .nilIface }
def t21 : TI := { agg := false, size := 1, bytes := 4, zero := [.v (.int .i32 0)], k := .int .i32, eqok := true, zd := .v (.int .i32 0) }
def t22 : TI := { agg := false, size := 1, bytes := 24, zero := [.v (.slice none 0 0)], k := .slice 3, eqok := true, zd := .v (.slice none 0 0) }
def t23 : TI := { agg := true, size := 3, bytes := 24, zero := [.v (.int .i64 0), .v (.int .i64 0), .v (.int .i64 0)], k := .array 3 3, eqok := true, zd := .agg [.v (.int .i64 0), .v (.int .i64 0), .v (.int .i64 0)] }
def t24 : TI := { agg := false, size := 1, bytes := 8, zero := [.v .nilFunc], k := .func, eqok := true, zd := .v .nilFunc }
def t25 : TI := { agg := false, size := 1, bytes := 24, zero := [.v (.slice none 0 0)], k := .slice 9, eqok := true, zd := .v (.slice none 0 0) }
def t26 : TI := { agg := false, size := 1, bytes := 24, zero := [.v (.slice none 0 0)], k := .slice 45, eqok := true, zd := .v (.slice none 0 0) }
def t27 : TI := { agg := true, size := 3, bytes := 64, zero := [.s [], .v (.slice none 0 0), .v (.slice none 0 0)], k := .struct [(0, 9), (1, 25), (2, 26)], eqok := true, zd := .agg [.s [], .v (.slice none 0 0), .v (.slice none 0 0)] }
def t28 : TI := { agg := true, size := 3, bytes := 64, zero := [.s [], .v (.slice none 0 0), .v (.slice none 0 0)], k := .struct [(0, 9), (1, 25), (2, 26)], eqok := true, zd := .agg [.s [], .v (.slice none 0 0), .v (.slice none 0 0)] }
def t29 : TI := { agg := false, size := 1, bytes := 8, zero := [.v .nilFunc], k := .func, eqok := true, zd := .v .nilFunc }
def t30 : TI := { agg := true, size := 2, bytes := 16, zero := [.v (.int .i64 0), .v (.int .i64 0)], k := .struct [(0, 3), (1, 3)], eqok := true, zd := .agg [.v (.int .i64 0), .v (.int .i64 0)] }
def t31 : TI := { agg := true, size := 2, bytes := 16, zero := [.v (.int .i64 0), .v (.int .i64 0)], k := .struct [(0, 3), (1, 3)], eqok := true, zd := .agg [.v (.int .i64 0), .v (.int .i64 0)] }
def t32 : TI := { agg := true, size := 7, bytes := 96, zero := [.v (.int .i64 0), .s [], .v (.int .i64 0), .v (.int .i64 0), .v (.int .i64 0), .v (.slice none 0 0), .v (.slice none 0 0)], k := .struct [(0, 3), (1, 9), (2, 31), (4, 3), (5, 25), (6, 26)], eqok := true, zd := .agg [.v (.int .i64 0), .s [], .v (.int .i64 0), .v (.int .i64 0), .v (.int .i64 0), .v (.slice none 0 0), .v (.slice none 0 0)] }
def t33 : TI := { agg := true, size := 7, bytes := 96, zero := [.v (.int .i64 0), .s [], .v (.int .i64 0), .v (.int .i64 0), .v (.int .i64 0), .v (.slice none 0 0), .v (.slice none 0 0)], k := .struct [(0, 3), (1, 9), (2, 31), (4, 3), (5, 25), (6, 26)], eqok := true, zd := .agg [.v (.int .i64 0), .s [], .v (.int .i64 0), .v (.int .i64 0), .v (.int .i64 0), .v (.slice none 0 0), .v (.slice none 0 0)] }
def t34 : TI := { agg := false, size := 1, bytes := 8, zero := [.v .nilFunc], k := .func, eqok := true, zd := .v .nilFunc }
def t35 : TI := { agg := false, size := 1, bytes := 8, zero := [.v .nilFunc], k := .func, eqok := true, zd := .v .nilFunc }
def t36 : TI := { agg := false, size := 1, bytes := 24, zero := [.v (.slice none 0 0)], k := .slice 28, eqok := true, zd := .v (.slice none 0 0) }
def t37 : TI := { agg := false, size := 1, bytes := 8, zero := [.v (.int .i64 0)], k := .int .i64, eqok := true, zd := .v (.int .i64 0) }
def t39 : TI := { agg := false, size := 1, bytes := 8, zero := [.v .nilFunc], k := .func, eqok := true, zd := .v .nilFunc }
def t40 : TI := { agg := false, size := 1, bytes := 8, zero := [.v .nilFunc], k := .func, eqok := true, zd := .v .nilFunc }
def t41 : TI := { agg := false, size := 1, bytes := 8, zero := [.v .nilFunc], k := .func, eqok := true, zd := .v .nilFunc }
def t42 : TI := { agg := false, size := 1, bytes := 8, zero := [.v .nilFunc], k := .func, eqok := true, zd := .v .nilFunc }
def t43 : TI := { agg := false, size := 1, bytes := 8, zero := [.v .nilFunc], k := .func, eqok := true, zd := .v .nilFunc }
def t44 : TI := { agg := false, size := 1, bytes := 8, zero := [.v .nilFunc], k := .func, eqok := true, zd := .v .nilFunc }
def t45 : TI := { agg := false, size := 1, bytes := 24, zero := [.v (.slice none 0 0)], k := .slice 33, eqok := true, zd := .v (.slice none 0 0) }
def t46 : TI := { agg := false, size := 1, bytes := 24, zero := [.v (.slice none 0 0)], k := .slice 31, eqok := true, zd := .v (.slice none 0 0) }
def t47 : TI := { agg := false, size := 1, bytes := 8, zero := [.v .nilFunc], k := .func, eqok := true, zd := .v .nilFunc }
def t48 : TI := { agg := false, size := 1, bytes := 24, zero := [.v (.slice none 0 0)], k := .slice 22, eqok := true, zd := .v (.slice none 0 0) }
def t49 : TI := { agg := false, size := 1, bytes := 24, zero := [.v (.slice none 0 0)], k := .slice 52, eqok := true, zd := .v (.slice none 0 0) }
def t50 : TI := { agg := false, size := 1, bytes := 8, zero := [.v .nilFunc], k := .func, eqok := true, zd := .v .nilFunc }
def t51 : TI := { agg := true, size := 2, bytes := 40, zero := [.v (.slice none 0 0), .s []], k := .struct [(0, 25), (1, 9)], eqok := true, zd := .agg [.v (.slice none 0 0), .s []] }
def t52 : TI := { agg := true, size := 2, bytes := 40, zero := [.v (.slice none 0 0), .s []], k := .struct [(0, 25), (1, 9)], eqok := true, zd := .agg [.v (.slice none 0 0), .s []] }
def t53 : TI := { agg := false, size := 1, bytes := 8, zero := [.v .nilFunc], k := .func, eqok := true, zd := .v .nilFunc }
def t54 : TI := { agg := false, size := 1, bytes := 8, zero := [.v .nilFunc], k := .func, eqok := true, zd := .v .nilFunc }
def t55 : TI := { agg := false, size := 1, bytes := 8, zero := [.v .nilFunc], k := .func, eqok := true, zd := .v .nilFunc }
def t56 : TI := { agg := false, size := 1, bytes := 8, zero := [.v (.map none)], k := .map 9 4, eqok := true, zd := .v (.map none) }
def t57 : TI := { agg := false, size := 1, bytes := 8, zero := [.v .nilFunc], k := .func, eqok := true, zd := .v .nilFunc }
def t58 : TI := { agg := false, size := 1, bytes := 8, zero := [.v .nilFunc], k := .func, eqok := true, zd := .v .nilFunc }
def t59 : TI := { agg := false, size := 1, bytes := 8, zero := [.v .nilFunc], k := .func, eqok := true, zd := .v .nilFunc }
def t60 : TI := { agg := false, size := 1, bytes := 8, zero := [.v .nilFunc], k := .func, eqok := true, zd := .v .nilFunc }
def t61 : TI := { agg := false, size := 1, bytes := 8, zero := [.v .nilFunc], k := .func, eqok := true, zd := .v .nilFunc }
def t62 : TI := { agg := false, size := 1, bytes := 8, zero := [.v .nilFunc], k := .func, eqok := true, zd := .v .nilFunc }
def t63 : TI := { agg := false, size := 1, bytes := 8, zero := [.v .nilFunc], k := .func, eqok := true, zd := .v .nilFunc }
def t65 : TI := { agg := false, size := 1, bytes := 8, zero := [.v .nilFunc], k := .func, eqok := true, zd := .v .nilFunc }
def t66 : TI := { agg := false, size := 1, bytes := 8, zero := [.v .nilFunc], k := .func, eqok := true, zd := .v .nilFunc }
def t67 : TI := { agg := false, size := 1, bytes := 8, zero := [.v .nilFunc], k := .func, eqok := true, zd := .v .nilFunc }
def t68 : TI := { agg := true, size := 2, bytes := 48, zero := [.v (.slice none 0 0), .v (.slice none 0 0)], k := .array 2 22, eqok := true, zd := .agg [.v (.slice none 0 0), .v (.slice none 0 0)] }
def t70 : TI := { agg := false, size := 1, bytes := 8, zero := [.v .nilFunc], k := .func, eqok := true, zd := .v .nilFunc }
def t71 : TI := { agg := true, size := 14, bytes := 192, zero := [.v (.int .i64 0), .s [], .v (.int .i64 0), .v (.int .i64 0), .v (.int .i64 0), .v (.slice none 0 0), .v (.slice none 0 0), .v (.int .i64 0), .s [], .v (.int .i64 0), .v (.int .i64 0), .v (.int .i64 0), .v (.slice none 0 0), .v (.slice none 0 0)], k := .array 2 33, eqok := true, zd := .agg [.v (.int .i64 0), .s [], .v (.int .i64 0), .v (.int .i64 0), .v (.int .i64 0), .v (.slice none 0 0), .v (.slice none 0 0), .v (.int .i64 0), .s [], .v (.int .i64 0), .v (.int .i64 0), .v (.int .i64 0), .v (.slice none 0 0), .v (.slice none 0 0)] }
def t72 : TI := { agg := false, size := 1, bytes := 24, zero := [.v (.slice none 0 0)], k := .slice 71, eqok := true, zd := .v (.slice none 0 0) }
def t73 : TI := { agg := false, size := 1, bytes := 8, zero := [.v .nilFunc], k := .func, eqok := true, zd := .v .nilFunc }
def t74 : TI := { agg := false, size := 1, bytes := 8, zero := [.v .nilFunc], k := .func, eqok := true, zd := .v .nilFunc }
def t75 : TI := { agg := false, size := 1, bytes := 8, zero := [.v .nilFunc], k := .func, eqok := true, zd := .v .nilFunc }
def t76 : TI := { agg := false, size := 1, bytes := 8, zero := [.v .nilFunc], k := .func, eqok := true, zd := .v .nilFunc }
def t77 : TI := { agg := false, size := 1, bytes := 8, zero := [.v .nilFunc], k := .func, eqok := true, zd := .v .nilFunc }
def t78 : TI := { agg := false, size := 1, bytes := 8, zero := [.v .nilFunc], k := .func, eqok := true, zd := .v .nilFunc }
def t79 : TI := { agg := false, size := 1, bytes := 8, zero := [.v .nilFunc], k := .func, eqok := true, zd := .v .nilFunc }
def t80 : TI := { agg := false, size := 1, bytes := 8, zero := [.v .nilFunc], k := .func, eqok := true, zd := .v .nilFunc }
def t81 : TI := { agg := false, size := 1, bytes := 8, zero := [.v (.pointer none)], k := .ptr 83, eqok := true, zd := .v (.pointer none) }
def t82 : TI := { agg := true, size := 2, bytes := 32, zero := [.v (.slice none 0 0), .v (.int .i64 0)], k := .struct [(0, 22), (1, 3)], eqok := true, zd := .agg [.v (.slice none 0 0), .v (.int .i64 0)] }
def t83 : TI := { agg := true, size := 2, bytes := 32, zero := [.v (.slice none 0 0), .v (.int .i64 0)], k := .struct [(0, 22), (1, 3)], eqok := true, zd := .agg [.v (.slice none 0 0), .v (.int .i64 0)] }
def t84 : TI := { agg := false, size := 1, bytes := 8, zero := [.v .nilFunc], k := .func, eqok := true, zd := .v .nilFunc }
def t85 : TI := { agg := false, size := 1, bytes := 8, zero := [.v .nilFunc], k := .func, eqok := true, zd := .v .nilFunc }
def t86 : TI := { agg := false, size := 1, bytes := 8, zero := [.v .nilFunc], k := .func, eqok := true, zd := .v .nilFunc }
def t87 : TI := { agg := false, size := 1, bytes := 8, zero := [.v .nilFunc], k := .func, eqok := true, zd := .v .nilFunc }
def t88 : TI := { agg := false, size := 1, bytes := 8, zero := [.v .nilFunc], k := .func, eqok := true, zd := .v .nilFunc }
def t89 : TI := { agg := false, size := 1, bytes := 8, zero := [.v .nilFunc], k := .func, eqok := true, zd := .v .nilFunc }
def t90 : TI := { agg := false, size := 1, bytes := 8, zero := [.v .nilFunc], k := .func, eqok := true, zd := .v .nilFunc }
def t91 : TI := { agg := false, size := 1, bytes := 8, zero := [.v .nilFunc], k := .func, eqok := true, zd := .v .nilFunc }
def t92 : TI := { agg := false, size := 1, bytes := 8, zero := [.v .nilFunc], k := .func, eqok := true, zd := .v .nilFunc }
def t93 : TI := { agg := false, size := 1, bytes := 8, zero := [.v .nilFunc], k := .func, eqok := true, zd := .v .nilFunc }
def t94 : TI := { agg := false, size := 1, bytes := 8, zero := [.v .nilFunc], k := .func, eqok := true, zd := .v .nilFunc }
def t95 : TI := { agg := false, size := 1, bytes := 8, zero := [.v .nilFunc], k := .func, eqok := true, zd := .v .nilFunc }
def t97 : TI := { agg := false, size := 1, bytes := 8, zero := [.v .nilFunc], k := .func, eqok := true, zd := .v .nilFunc }
def t98 : TI := { agg := false, size := 1, bytes := 8, zero := [.v .nilFunc], k := .func, eqok := true, zd := .v .nilFunc }
def t99 : TI := { agg := false, size := 1, bytes := 8, zero := [.v .nilFunc], k := .func, eqok := true, zd := .v .nilFunc }
def t100 : TI := { agg := false, size := 1, bytes := 8, zero := [.v .nilFunc], k := .func, eqok := true, zd := .v .nilFunc }
def t101 : TI := { agg := false, size := 1, bytes := 8, zero := [.v .nilFunc], k := .func, eqok := true, zd := .v .nilFunc }
def t102 : TI := { agg := false, size := 1, bytes := 8, zero := [.v .nilFunc], k := .func, eqok := true, zd := .v .nilFunc }
def t103 : TI := { agg := false, size := 1, bytes := 8, zero := [.v .nilFunc], k := .func, eqok := true, zd := .v .nilFunc }
def t104 : TI := { agg := false, size := 1, bytes := 8, zero := [.v .nilFunc], k := .func, eqok := true, zd := .v .nilFunc }
def t105 : TI := { agg := false, size := 1, bytes := 8, zero := [.v .nilFunc], k := .func, eqok := true, zd := .v .nilFunc }
def t106 : TI := { agg := false, size := 1, bytes := 8, zero := [.v .nilFunc], k := .func, eqok := true, zd := .v .nilFunc }
def t107 : TI := { agg := false, size := 1, bytes := 8, zero := [.v .nilFunc], k := .func, eqok := true, zd := .v .nilFunc }
def t108 : TI := { agg := false, size := 1, bytes := 8, zero := [.v (.map none)], k := .map 9 3, eqok := true, zd := .v (.map none) }
def t110 : TI := { agg := false, size := 1, bytes := 8, zero := [.v .nilFunc], k := .func, eqok := true, zd := .v .nilFunc }
def t111 : TI := { agg := false, size := 1, bytes := 8, zero := [.v .nilFunc], k := .func, eqok := true, zd := .v .nilFunc }
def t112 : TI := { agg := false, size := 1, bytes := 8, zero := [.v .nilFunc], k := .func, eqok := true, zd := .v .nilFunc }
def t113 : TI := { agg := false, size := 1, bytes := 8, zero := [.v .nilFunc], k := .func, eqok := true, zd := .v .nilFunc }
def t114 : TI := { agg := false, size := 1, bytes := 8, zero := [.v (.map none)], k := .map 9 22, eqok := true, zd := .v (.map none) }
def t115 : TI := { agg := false, size := 1, bytes := 8, zero := [.v .nilFunc], k := .func, eqok := true, zd := .v .nilFunc }
def t116 : TI := { agg := false, size := 1, bytes := 8, zero := [.v .nilFunc], k := .func, eqok := true, zd := .v .nilFunc }
def t117 : TI := { agg := false, size := 1, bytes := 8, zero := [.v .nilFunc], k := .func, eqok := true, zd := .v .nilFunc }
def t118 : TI := { agg := false, size := 1, bytes := 8, zero := [.v .nilFunc], k := .func, eqok := true, zd := .v .nilFunc }
def t119 : TI := { agg := false, size := 1, bytes := 8, zero := [.v .nilFunc], k := .func, eqok := true, zd := .v .nilFunc }
def t120 : TI := { agg := false, size := 1, bytes := 8, zero := [.v .nilFunc], k := .func, eqok := true, zd := .v .nilFunc }
def t121 : TI := { agg := false, size := 1, bytes := 8, zero := [.v .nilFunc], k := .func, eqok := true, zd := .v .nilFunc }
def t122 : TI := { agg := false, size := 1, bytes := 8, zero := [.v .nilFunc], k := .func, eqok := true, zd := .v .nilFunc }
def t123 : TI := { agg := false, size := 1, bytes := 8, zero := [.v .nilFunc], k := .func, eqok := true, zd := .v .nilFunc }
def t124 : TI := { agg := false, size := 1, bytes := 8, zero := [.v .nilFunc], k := .func, eqok := true, zd := .v .nilFunc }
def t125 : TI := { agg := false, size := 1, bytes := 8, zero := [.v .nilFunc], k := .func, eqok := true, zd := .v .nilFunc }
def t126 : TI := { agg := false, size := 1, bytes := 8, zero := [.v .nilFunc], k := .func, eqok := true, zd := .v .nilFunc }
def t127 : TI := { agg := false, size := 1, bytes := 8, zero := [.v .nilFunc], k := .func, eqok := true, zd := .v .nilFunc }
def t128 : TI := { agg := false, size := 1, bytes := 8, zero := [.v .nilFunc], k := .func, eqok := true, zd := .v .nilFunc }
def t129 : TI := { agg := true, size := 2, bytes := 16, zero := [.v .nilFunc, .v .nilFunc], k := .struct [(0, 94), (1, 128)], eqok := true, zd := .agg [.v .nilFunc, .v .nilFunc] }
def t130 : TI := { agg := true, size := 2, bytes := 16, zero := [.v .nilFunc, .v .nilFunc], k := .struct [(0, 94), (1, 128)], eqok := true, zd := .agg [.v .nilFunc, .v .nilFunc] }
def t132 : TI := { agg := false, size := 1, bytes := 8, zero := [.v (.map none)], k := .map 3 130, eqok := true, zd := .v (.map none) }
def t133 : TI := { agg := false, size := 1, bytes := 8, zero := [.v .nilFunc], k := .func, eqok := true, zd := .v .nilFunc }
def t134 : TI := { agg := false, size := 1, bytes := 8, zero := [.v .nilFunc], k := .func, eqok := true, zd := .v .nilFunc }
def t135 : TI := { agg := false, size := 1, bytes := 8, zero := [.v (.int .u64 0)], k := .int .u64, eqok := true, zd := .v (.int .u64 0) }
def t136 : TI := { agg := true, size := 3, bytes := 24, zero := [.v (.bool false), .v (.int .u64 0), .v (.int .u64 0)], k := .struct [(0, 4), (1, 135), (2, 135)], eqok := true, zd := .agg [.v (.bool false), .v (.int .u64 0), .v (.int .u64 0)] }
def t137 : TI := { agg := true, size := 3, bytes := 24, zero := [.v (.bool false), .v (.int .u64 0), .v (.int .u64 0)], k := .struct [(0, 4), (1, 135), (2, 135)], eqok := true, zd := .agg [.v (.bool false), .v (.int .u64 0), .v (.int .u64 0)] }
def t138 : TI := { agg := false, size := 1, bytes := 8, zero := [.v .nilFunc], k := .func, eqok := true, zd := .v .nilFunc }
def t139 : TI := { agg := false, size := 1, bytes := 8, zero := [.v .nilFunc], k := .func, eqok := true, zd := .v .nilFunc }
def t140 : TI := { agg := false, size := 1, bytes := 8, zero := [.v .nilFunc], k := .func, eqok := true, zd := .v .nilFunc }
def t141 : TI := { agg := false, size := 1, bytes := 8, zero := [.v .nilFunc], k := .func, eqok := true, zd := .v .nilFunc }
def t142 : TI := { agg := false, size := 1, bytes := 8, zero := [.v .nilFunc], k := .func, eqok := true, zd := .v .nilFunc }
def t143 : TI := { agg := false, size := 1, bytes := 8, zero := [.v .nilFunc], k := .func, eqok := true, zd := .v .nilFunc }
def t144 : TI := { agg := false, size := 1, bytes := 16, zero := [.s []], k := .str, eqok := true, zd := .s [] }
def t145 : TI := { agg := true, size := 3, bytes := 32, zero := [.v (.bool false), .s [], .v (.int .i64 0)], k := .struct [(0, 4), (1, 144), (2, 3)], eqok := true, zd := .agg [.v (.bool false), .s [], .v (.int .i64 0)] }
def t146 : TI := { agg := true, size := 3, bytes := 32, zero := [.v (.bool false), .s [], .v (.int .i64 0)], k := .struct [(0, 4), (1, 144), (2, 3)], eqok := true, zd := .agg [.v (.bool false), .s [], .v (.int .i64 0)] }
def t147 : TI := { agg := false, size := 1, bytes := 8, zero := [.v .nilFunc], k := .func, eqok := true, zd := .v .nilFunc }
def t148 : TI := { agg := false, size := 1, bytes := 8, zero := [.v .nilFunc], k := .func, eqok := true, zd := .v .nilFunc }
def t149 : TI := { agg := false, size := 1, bytes := 8, zero := [.v .nilFunc], k := .func, eqok := true, zd := .v .nilFunc }
def t150 : TI := { agg := false, size := 1, bytes := 8, zero := [.v .nilFunc], k := .func, eqok := true, zd := .v .nilFunc }
def t151 : TI := { agg := false, size := 1, bytes := 8, zero := [.v .nilFunc], k := .func, eqok := true, zd := .v .nilFunc }
def t152 : TI := { agg := false, size := 1, bytes := 8, zero := [.v .nilFunc], k := .func, eqok := true, zd := .v .nilFunc }
def t153 : TI := { agg := false, size := 1, bytes := 8, zero := [.v .nilFunc], k := .func, eqok := true, zd := .v .nilFunc }
def t154 : TI := { agg := false, size := 1, bytes := 8, zero := [.v .nilFunc], k := .func, eqok := true, zd := .v .nilFunc }
def t155 : TI := { agg := false, size := 1, bytes := 8, zero := [.v .nilFunc], k := .func, eqok := true, zd := .v .nilFunc }
def t156 : TI := { agg := false, size := 1, bytes := 8, zero := [.v .nilFunc], k := .func, eqok := true, zd := .v .nilFunc }
def t157 : TI := { agg := false, size := 1, bytes := 8, zero := [.v .nilFunc], k := .func, eqok := true, zd := .v .nilFunc }
def t158 : TI := { agg := false, size := 1, bytes := 24, zero := [.v (.slice none 0 0)], k := .slice 25, eqok := true, zd := .v (.slice none 0 0) }
def t159 : TI := { agg := false, size := 1, bytes := 8, zero := [.v .nilFunc], k := .func, eqok := true, zd := .v .nilFunc }
def t160 : TI := { agg := false, size := 1, bytes := 8, zero := [.v .nilFunc], k := .func, eqok := true, zd := .v .nilFunc }
def t161 : TI := { agg := false, size := 1, bytes := 8, zero := [.v .nilFunc], k := .func, eqok := true, zd := .v .nilFunc }
def t162 : TI := { agg := false, size := 1, bytes := 8, zero := [.v (.pointer none)], k := .ptr 165, eqok := true, zd := .v (.pointer none) }
def t163 : TI := { agg := false, size := 1, bytes := 24, zero := [.v (.slice none 0 0)], k := .slice 5, eqok := true, zd := .v (.slice none 0 0) }
def t164 : TI := { agg := true, size := 2, bytes := 32, zero := [.v (.pointer none), .v (.slice none 0 0)], k := .struct [(0, 162), (1, 163)], eqok := true, zd := .agg [.v (.pointer none), .v (.slice none 0 0)] }
def t165 : TI := { agg := true, size := 2, bytes := 32, zero := [.v (.pointer none), .v (.slice none 0 0)], k := .struct [(0, 162), (1, 163)], eqok := true, zd := .agg [.v (.pointer none), .v (.slice none 0 0)] }
def t166 : TI := { agg := false, size := 1, bytes := 16, zero := [.v .nilIface], k := .other, eqok := false, zd := .v .nilIface }
def t167 : TI := { agg := false, size := 1, bytes := 16, zero := [.v .nilIface], k := .other, eqok := false, zd := .v .nilIface }
def t169 : TI := { agg := false, size := 1, bytes := 8, zero := [.v .nilFunc], k := .func, eqok := true, zd := .v .nilFunc }
def t170 : TI := { agg := false, size := 1, bytes := 8, zero := [.v .nilFunc], k := .func, eqok := true, zd := .v .nilFunc }
def t171 : TI := { agg := false, size := 1, bytes := 8, zero := [.v .nilFunc], k := .func, eqok := true, zd := .v .nilFunc }
def t172 : TI := { agg := false, size := 1, bytes := 8, zero := [.v .nilFunc], k := .func, eqok := true, zd := .v .nilFunc }
def t173 : TI := { agg := false, size := 1, bytes := 8, zero := [.v .nilFunc], k := .func, eqok := true, zd := .v .nilFunc }
def t174 : TI := { agg := false, size := 1, bytes := 8, zero := [.v .nilFunc], k := .func, eqok := true, zd := .v .nilFunc }
def t175 : TI := { agg := false, size := 1, bytes := 8, zero := [.v .nilFunc], k := .func, eqok := true, zd := .v .nilFunc }
def t176 : TI := { agg := false, size := 1, bytes := 8, zero := [.v .nilFunc], k := .func, eqok := true, zd := .v .nilFunc }
def t177 : TI := { agg := false, size := 1, bytes := 8, zero := [.v .nilFunc], k := .func, eqok := true, zd := .v .nilFunc }
def t179 : TI := { agg := false, size := 1, bytes := 8, zero := [.v .nilFunc], k := .func, eqok := true, zd := .v .nilFunc }
def t180 : TI := { agg := false, size := 1, bytes := 8, zero := [.v .nilFunc], k := .func, eqok := true, zd := .v .nilFunc }
def t181 : TI := { agg := false, size := 1, bytes := 8, zero := [.v .nilFunc], k := .func, eqok := true, zd := .v .nilFunc }
def t182 : TI := { agg := true, size := 19, bytes := 152, zero := [.v (.int .i64 0), .v (.int .i64 0), .v (.int .i64 0), .v (.int .i64 0), .v (.int .i64 0), .v (.int .i64 0), .v (.int .i64 0), .v (.int .i64 0), .v (.int .i64 0), .v (.int .i64 0), .v (.int .i64 0), .v (.int .i64 0), .v (.int .i64 0), .v (.int .i64 0), .v (.int .i64 0), .v (.int .i64 0), .v (.int .i64 0), .v (.int .i64 0), .v (.int .i64 0)], k := .array 19 3, eqok := true, zd := .agg [.v (.int .i64 0), .v (.int .i64 0), .v (.int .i64 0), .v (.int .i64 0), .v (.int .i64 0), .v (.int .i64 0), .v (.int .i64 0), .v (.int .i64 0), .v (.int .i64 0), .v (.int .i64 0), .v (.int .i64 0), .v (.int .i64 0), .v (.int .i64 0), .v (.int .i64 0), .v (.int .i64 0), .v (.int .i64 0), .v (.int .i64 0), .v (.int .i64 0), .v (.int .i64 0)] }
def t183 : TI := { agg := false, size := 1, bytes := 8, zero := [.v .nilFunc], k := .func, eqok := true, zd := .v .nilFunc }
def t185 : TI := { agg := false, size := 1, bytes := 8, zero := [.v .nilFunc], k := .func, eqok := true, zd := .v .nilFunc }
def t186 : TI := { agg := false, size := 1, bytes := 8, zero := [.v .nilFunc], k := .func, eqok := true, zd := .v .nilFunc }
def t187 : TI := { agg := false, size := 1, bytes := 8, zero := [.v .nilFunc], k := .func, eqok := true, zd := .v .nilFunc }
def t188 : TI := { agg := false, size := 1, bytes := 8, zero := [.v .nilFunc], k := .func, eqok := true, zd := .v .nilFunc }
def t189 : TI := { agg := false, size := 1, bytes := 8, zero := [.v .nilFunc], k := .func, eqok := true, zd := .v .nilFunc }
def t190 : TI := { agg := false, size := 1, bytes := 8, zero := [.v .nilFunc], k := .func, eqok := true, zd := .v .nilFunc }
def t192 : TI := { agg := false, size := 1, bytes := 8, zero := [.v .nilFunc], k := .func, eqok := true, zd := .v .nilFunc }
def t193 : TI := { agg := false, size := 1, bytes := 8, zero := [.v .nilFunc], k := .func, eqok := true, zd := .v .nilFunc }
def t194 : TI := { agg := false, size := 1, bytes := 8, zero := [.v .nilFunc], k := .func, eqok := true, zd := .v .nilFunc }
def t195 : TI := { agg := false, size := 1, bytes := 8, zero := [.v .nilFunc], k := .func, eqok := true, zd := .v .nilFunc }
def t196 : TI := { agg := false, size := 1, bytes := 8, zero := [.v .nilFunc], k := .func, eqok := true, zd := .v .nilFunc }
def t197 : TI := { agg := false, size := 1, bytes := 8, zero := [.v (.int .u64 0)], k := .int .u64, eqok := true, zd := .v (.int .u64 0) }
def t198 : TI := { agg := false, size := 1, bytes := 8, zero := [.v .nilFunc], k := .func, eqok := true, zd := .v .nilFunc }
def t199 : TI := { agg := false, size := 1, bytes := 8, zero := [.v .nilFunc], k := .func, eqok := true, zd := .v .nilFunc }
def t200 : TI := { agg := false, size := 1, bytes := 8, zero := [.v .nilFunc], k := .func, eqok := true, zd := .v .nilFunc }
def t201 : TI := { agg := false, size := 1, bytes := 8, zero := [.v .nilFunc], k := .func, eqok := true, zd := .v .nilFunc }
def t203 : TI := { agg := false, size := 1, bytes := 8, zero := [.v .nilFunc], k := .func, eqok := true, zd := .v .nilFunc }
def t204 : TI := { agg := false, size := 1, bytes := 8, zero := [.v .nilFunc], k := .func, eqok := true, zd := .v .nilFunc }
def t205 : TI := { agg := false, size := 1, bytes := 8, zero := [.v (.pointer none)], k := .ptr 5, eqok := true, zd := .v (.pointer none) }
def t206 : TI := { agg := false, size := 1, bytes := 8, zero := [.v .nilFunc], k := .func, eqok := true, zd := .v .nilFunc }
def t207 : TI := { agg := false, size := 1, bytes := 8, zero := [.v .nilFunc], k := .func, eqok := true, zd := .v .nilFunc }
def t208 : TI := { agg := false, size := 1, bytes := 8, zero := [.v .nilFunc], k := .func, eqok := true, zd := .v .nilFunc }
def t209 : TI := { agg := false, size := 1, bytes := 8, zero := [.v .nilFunc], k := .func, eqok := true, zd := .v .nilFunc }
def t210 : TI := { agg := false, size := 1, bytes := 8, zero := [.v .nilFunc], k := .func, eqok := true, zd := .v .nilFunc }
def t211 : TI := { agg := false, size := 1, bytes := 8, zero := [.v .nilFunc], k := .func, eqok := true, zd := .v .nilFunc }
def t212 : TI := { agg := false, size := 1, bytes := 8, zero := [.v .nilFunc], k := .func, eqok := true, zd := .v .nilFunc }
def t213 : TI := { agg := false, size := 1, bytes := 8, zero := [.v .nilFunc], k := .func, eqok := true, zd := .v .nilFunc }
def t214 : TI := { agg := false, size := 1, bytes := 8, zero := [.v .nilFunc], k := .func, eqok := true, zd := .v .nilFunc }
def t215 : TI := { agg := false, size := 1, bytes := 8, zero := [.v .nilFunc], k := .func, eqok := true, zd := .v .nilFunc }
def t216 : TI := { agg := false, size := 1, bytes := 8, zero := [.v .nilFunc], k := .func, eqok := true, zd := .v .nilFunc }
def t217 : TI := { agg := false, size := 1, bytes := 8, zero := [.v .nilFunc], k := .func, eqok := true, zd := .v .nilFunc }
def t218 : TI := { agg := false, size := 1, bytes := 8, zero := [.v .nilFunc], k := .func, eqok := true, zd := .v .nilFunc }
def t219 : TI := { agg := false, size := 1, bytes := 8, zero := [.v .nilFunc], k := .func, eqok := true, zd := .v .nilFunc }
def t220 : TI := { agg := false, size := 1, bytes := 8, zero := [.v .nilFunc], k := .func, eqok := true, zd := .v .nilFunc }
def t221 : TI := { agg := false, size := 1, bytes := 8, zero := [.v .nilFunc], k := .func, eqok := true, zd := .v .nilFunc }
def t222 : TI := { agg := false, size := 1, bytes := 8, zero := [.v .nilFunc], k := .func, eqok := true, zd := .v .nilFunc }
def t223 : TI := { agg := false, size := 1, bytes := 8, zero := [.v .nilFunc], k := .func, eqok := true, zd := .v .nilFunc }
def t224 : TI := { agg := false, size := 1, bytes := 8, zero := [.v .nilFunc], k := .func, eqok := true, zd := .v .nilFunc }
def t225 : TI := { agg := false, size := 1, bytes := 8, zero := [.v .nilFunc], k := .func, eqok := true, zd := .v .nilFunc }
def t226 : TI := { agg := false, size := 1, bytes := 8, zero := [.v .nilFunc], k := .func, eqok := true, zd := .v .nilFunc }
def t227 : TI := { agg := false, size := 1, bytes := 8, zero := [.v .nilFunc], k := .func, eqok := true, zd := .v .nilFunc }
def t228 : TI := { agg := false, size := 1, bytes := 8, zero := [.v (.int .i64 0)], k := .int .i64, eqok := true, zd := .v (.int .i64 0) }
def t230 : TI := { agg := false, size := 1, bytes := 8, zero := [.v .nilFunc], k := .func, eqok := true, zd := .v .nilFunc }
def t231 : TI := { agg := false, size := 1, bytes := 8, zero := [.v .nilFunc], k := .func, eqok := true, zd := .v .nilFunc }
def t232 : TI := { agg := false, size := 1, bytes := 8, zero := [.v .nilFunc], k := .func, eqok := true, zd := .v .nilFunc }
def t233 : TI := { agg := false, size := 1, bytes := 8, zero := [.v .nilFunc], k := .func, eqok := true, zd := .v .nilFunc }
def t234 : TI := { agg := false, size := 1, bytes := 8, zero := [.v .nilFunc], k := .func, eqok := true, zd := .v .nilFunc }
def t235 : TI := { agg := false, size := 1, bytes := 8, zero := [.v .nilFunc], k := .func, eqok := true, zd := .v .nilFunc }
def t236 : TI := { agg := false, size := 1, bytes := 4, zero := [.v (.int .u32 0)], k := .int .u32, eqok := true, zd := .v (.int .u32 0) }
def t238 : TI := { agg := false, size := 1, bytes := 8, zero := [.v .nilFunc], k := .func, eqok := true, zd := .v .nilFunc }
def t240 : TI := { agg := false, size := 1, bytes := 8, zero := [.v .nilFunc], k := .func, eqok := true, zd := .v .nilFunc }
def t241 : TI := { agg := false, size := 1, bytes := 8, zero := [.v .nilFunc], k := .func, eqok := true, zd := .v .nilFunc }
def t242 : TI := { agg := true, size := 3, bytes := 24, zero := [.v (.int .i64 0), .v (.int .i64 0), .v (.int .i64 0)], k := .struct [(0, 3), (1, 3), (2, 3)], eqok := true, zd := .agg [.v (.int .i64 0), .v (.int .i64 0), .v (.int .i64 0)] }
def t243 : TI := { agg := true, size := 3, bytes := 24, zero := [.v (.int .i64 0), .v (.int .i64 0), .v (.int .i64 0)], k := .struct [(0, 3), (1, 3), (2, 3)], eqok := true, zd := .agg [.v (.int .i64 0), .v (.int .i64 0), .v (.int .i64 0)] }
def t245 : TI := { agg := false, size := 1, bytes := 8, zero := [.v .nilFunc], k := .func, eqok := true, zd := .v .nilFunc }
def t246 : TI := { agg := false, size := 1, bytes := 8, zero := [.v .nilFunc], k := .func, eqok := true, zd := .v .nilFunc }
def t247 : TI := { agg := false, size := 1, bytes := 8, zero := [.v .nilFunc], k := .func, eqok := true, zd := .v .nilFunc }
def t248 : TI := { agg := false, size := 1, bytes := 8, zero := [.v .nilFunc], k := .func, eqok := true, zd := .v .nilFunc }
def t249 : TI := { agg := false, size := 1, bytes := 8, zero := [.v (.pointer none)], k := .other, eqok := true, zd := .v (.pointer none) }
def t250 : TI := { agg := false, size := 1, bytes := 8, zero := [.v .nilFunc], k := .func, eqok := true, zd := .v .nilFunc }
def t251 : TI := { agg := false, size := 1, bytes := 8, zero := [.v .nilFunc], k := .func, eqok := true, zd := .v .nilFunc }
def t252 : TI := { agg := false, size := 1, bytes := 8, zero := [.v .nilFunc], k := .func, eqok := true, zd := .v .nilFunc }
def t253 : TI := { agg := false, size := 1, bytes := 8, zero := [.v (.int .u64 0)], k := .int .u64, eqok := true, zd := .v (.int .u64 0) }
def t254 : TI := { agg := false, size := 1, bytes := 8, zero := [.v .nilFunc], k := .func, eqok := true, zd := .v .nilFunc }
def t255 : TI := { agg := false, size := 1, bytes := 8, zero := [.v .nilFunc], k := .func, eqok := true, zd := .v .nilFunc }
def t256 : TI := { agg := false, size := 1, bytes := 8, zero := [.v .nilFunc], k := .func, eqok := true, zd := .v .nilFunc }
def t257 : TI := { agg := false, size := 1, bytes := 8, zero := [.v (.pointer none)], k := .ptr 3, eqok := true, zd := .v (.pointer none) }
def t258 : TI := { agg := false, size := 1, bytes := 8, zero := [.v .nilFunc], k := .func, eqok := true, zd := .v .nilFunc }
def t259 : TI := { agg := false, size := 1, bytes := 8, zero := [.v .nilFunc], k := .func, eqok := true, zd := .v .nilFunc }
def t260 : TI := { agg := false, size := 1, bytes := 8, zero := [.v .nilFunc], k := .func, eqok := true, zd := .v .nilFunc }
def t262 : TI := { agg := false, size := 1, bytes := 8, zero := [.v .nilFunc], k := .func, eqok := true, zd := .v .nilFunc }
def t263 : TI := { agg := false, size := 1, bytes := 8, zero := [.v .nilFunc], k := .func, eqok := true, zd := .v .nilFunc }
def t264 : TI := { agg := false, size := 1, bytes := 8, zero := [.v .nilFunc], k := .func, eqok := true, zd := .v .nilFunc }
def t265 : TI := { agg := true, size := 24, bytes := 24, zero := [.v (.int .u8 0), .v (.int .u8 0), .v (.int .u8 0), .v (.int .u8 0), .v (.int .u8 0), .v (.int .u8 0), .v (.int .u8 0), .v (.int .u8 0), .v (.int .u8 0), .v (.int .u8 0), .v (.int .u8 0), .v (.int .u8 0), .v (.int .u8 0), .v (.int .u8 0), .v (.int .u8 0), .v (.int .u8 0), .v (.int .u8 0), .v (.int .u8 0), .v (.int .u8 0), .v (.int .u8 0), .v (.int .u8 0), .v (.int .u8 0), .v (.int .u8 0), .v (.int .u8 0)], k := .array 24 5, eqok := true, zd := .agg [.v (.int .u8 0), .v (.int .u8 0), .v (.int .u8 0), .v (.int .u8 0), .v (.int .u8 0), .v (.int .u8 0), .v (.int .u8 0), .v (.int .u8 0), .v (.int .u8 0), .v (.int .u8 0), .v (.int .u8 0), .v (.int .u8 0), .v (.int .u8 0), .v (.int .u8 0), .v (.int .u8 0), .v (.int .u8 0), .v (.int .u8 0), .v (.int .u8 0), .v (.int .u8 0), .v (.int .u8 0), .v (.int .u8 0), .v (.int .u8 0), .v (.int .u8 0), .v (.int .u8 0)] }
def t266 : TI := { agg := false, size := 1, bytes := 8, zero := [.v .nilFunc], k := .func, eqok := true, zd := .v .nilFunc }
def t268 : TI := { agg := false, size := 1, bytes := 8, zero := [.v .nilFunc], k := .func, eqok := true, zd := .v .nilFunc }
def t269 : TI := { agg := false, size := 1, bytes := 8, zero := [.v .nilFunc], k := .func, eqok := true, zd := .v .nilFunc }
def t270 : TI := { agg := false, size := 1, bytes := 8, zero := [.v .nilFunc], k := .func, eqok := true, zd := .v .nilFunc }
def t271 : TI := { agg := false, size := 1, bytes := 8, zero := [.v (.pointer none)], k := .ptr 253, eqok := true, zd := .v (.pointer none) }
def t273 : TI := { agg := false, size := 1, bytes := 8, zero := [.v .nilFunc], k := .func, eqok := true, zd := .v .nilFunc }
def t275 : TI := { agg := true, size := 2, bytes := 2, zero := [.v (.int .u8 0), .v (.int .u8 0)], k := .struct [(0, 5), (1, 5)], eqok := true, zd := .agg [.v (.int .u8 0), .v (.int .u8 0)] }
def t276 : TI := { agg := true, size := 2, bytes := 2, zero := [.v (.int .u8 0), .v (.int .u8 0)], k := .struct [(0, 5), (1, 5)], eqok := true, zd := .agg [.v (.int .u8 0), .v (.int .u8 0)] }
def t278 : TI := { agg := false, size := 1, bytes := 8, zero := [.v .nilFunc], k := .func, eqok := true, zd := .v .nilFunc }
def t279 : TI := { agg := false, size := 1, bytes := 8, zero := [.v .nilFunc], k := .func, eqok := true, zd := .v .nilFunc }
def t280 : TI := { agg := false, size := 1, bytes := 8, zero := [.v .nilFunc], k := .func, eqok := true, zd := .v .nilFunc }
def t281 : TI := { agg := true, size := 20, bytes := 160, zero := [.v (.int .u64 0), .v (.int .u64 0), .v (.int .u64 0), .v (.int .u64 0), .v (.int .u64 0), .v (.int .u64 0), .v (.int .u64 0), .v (.int .u64 0), .v (.int .u64 0), .v (.int .u64 0), .v (.int .u64 0), .v (.int .u64 0), .v (.int .u64 0), .v (.int .u64 0), .v (.int .u64 0), .v (.int .u64 0), .v (.int .u64 0), .v (.int .u64 0), .v (.int .u64 0), .v (.int .u64 0)], k := .array 20 135, eqok := true, zd := .agg [.v (.int .u64 0), .v (.int .u64 0), .v (.int .u64 0), .v (.int .u64 0), .v (.int .u64 0), .v (.int .u64 0), .v (.int .u64 0), .v (.int .u64 0), .v (.int .u64 0), .v (.int .u64 0), .v (.int .u64 0), .v (.int .u64 0), .v (.int .u64 0), .v (.int .u64 0), .v (.int .u64 0), .v (.int .u64 0), .v (.int .u64 0), .v (.int .u64 0), .v (.int .u64 0), .v (.int .u64 0)] }
def t283 : TI := { agg := false, size := 1, bytes := 8, zero := [.v .nilFunc], k := .func, eqok := true, zd := .v .nilFunc }
def t284 : TI := { agg := false, size := 1, bytes := 8, zero := [.v .nilFunc], k := .func, eqok := true, zd := .v .nilFunc }
def t288 : TI := { agg := false, size := 1, bytes := 8, zero := [.v .nilFunc], k := .func, eqok := true, zd := .v .nilFunc }
def t289 : TI := { agg := false, size := 1, bytes := 8, zero := [.v .nilFunc], k := .func, eqok := true, zd := .v .nilFunc }
def t290 : TI := { agg := false, size := 1, bytes := 8, zero := [.v (.pointer none)], k := .ptr 286, eqok := true, zd := .v (.pointer none) }
def t293 : TI := { agg := false, size := 1, bytes := 8, zero := [.v (.pointer none)], k := .ptr 307, eqok := true, zd := .v (.pointer none) }
def t294 : TI := { agg := true, size := 4, bytes := 40, zero := [.v (.pointer none), .v (.pointer none), .v (.pointer none), .s []], k := .struct [(0, 17), (1, 17), (2, 17), (3, 9)], eqok := false, zd := .agg [.v (.pointer none), .v (.pointer none), .v (.pointer none), .s []] }
def t295 : TI := { agg := true, size := 4, bytes := 40, zero := [.v (.pointer none), .v (.pointer none), .v (.pointer none), .s []], k := .struct [(0, 17), (1, 17), (2, 17), (3, 9)], eqok := false, zd := .agg [.v (.pointer none), .v (.pointer none), .v (.pointer none), .s []] }
def t296 : TI := { agg := true, size := 0, bytes := 0, zero := [], k := .array 0 16, eqok := true, zd := .agg [] }
def t297 : TI := { agg := true, size := 0, bytes := 0, zero := [], k := .struct [(0, 296)], eqok := false, zd := .agg [] }
def t298 : TI := { agg := true, size := 0, bytes := 0, zero := [], k := .struct [(0, 296)], eqok := false, zd := .agg [] }
def t299 : TI := { agg := false, size := 1, bytes := 1, zero := [.v (.int .u8 0)], k := .int .u8, eqok := true, zd := .v (.int .u8 0) }
def t300 : TI := { agg := false, size := 1, bytes := 1, zero := [.v (.int .u8 0)], k := .int .u8, eqok := true, zd := .v (.int .u8 0) }
def t301 : TI := { agg := false, size := 1, bytes := 8, zero := [.v .nilFunc], k := .func, eqok := true, zd := .v .nilFunc }
def t302 : TI := { agg := false, size := 1, bytes := 4, zero := [.v (.int .i32 0)], k := .int .i32, eqok := true, zd := .v (.int .i32 0) }
def t303 : TI := { agg := false, size := 1, bytes := 4, zero := [.v (.int .i32 0)], k := .int .i32, eqok := true, zd := .v (.int .i32 0) }
def t304 : TI := { agg := true, size := 11, bytes := 48, zero := [.v (.int .u64 0), .v (.int .u64 0), .v (.int .u32 0), .v (.int .u8 0), .v (.int .u8 0), .v (.int .u8 0), .v (.int .u8 0), .v .nilFunc, .v (.pointer none), .v (.int .i32 0), .v (.int .i32 0)], k := .struct [(0, 12), (1, 12), (2, 236), (3, 299), (4, 5), (5, 5), (6, 300), (7, 301), (8, 205), (9, 302), (10, 303)], eqok := false, zd := .agg [.v (.int .u64 0), .v (.int .u64 0), .v (.int .u32 0), .v (.int .u8 0), .v (.int .u8 0), .v (.int .u8 0), .v (.int .u8 0), .v .nilFunc, .v (.pointer none), .v (.int .i32 0), .v (.int .i32 0)] }
def t305 : TI := { agg := true, size := 11, bytes := 48, zero := [.v (.int .u64 0), .v (.int .u64 0), .v (.int .u32 0), .v (.int .u8 0), .v (.int .u8 0), .v (.int .u8 0), .v (.int .u8 0), .v .nilFunc, .v (.pointer none), .v (.int .i32 0), .v (.int .i32 0)], k := .struct [(0, 12), (1, 12), (2, 236), (3, 299), (4, 5), (5, 5), (6, 300), (7, 301), (8, 205), (9, 302), (10, 303)], eqok := false, zd := .agg [.v (.int .u64 0), .v (.int .u64 0), .v (.int .u32 0), .v (.int .u8 0), .v (.int .u8 0), .v (.int .u8 0), .v (.int .u8 0), .v .nilFunc, .v (.pointer none), .v (.int .i32 0), .v (.int .i32 0)] }
def t306 : TI := { agg := true, size := 1, bytes := 16, zero := [.s []], k := .struct [(0, 9)], eqok := true, zd := .agg [.s []] }
def t307 : TI := { agg := true, size := 1, bytes := 16, zero := [.s []], k := .struct [(0, 9)], eqok := true, zd := .agg [.s []] }
theorem k1 : tiOf Tryz.prog 1 = some t1 := by kernel_rfl
theorem k2 : tiOf Tryz.prog 2 = some t2 := by kernel_rfl
theorem k3 : tiOf Tryz.prog 3 = some t3 := by kernel_rfl
theorem k4 : tiOf Tryz.prog 4 = some t4 := by kernel_rfl
theorem k5 : tiOf Tryz.prog 5 = some t5 := by kernel_rfl
theorem k6 : tiOf Tryz.prog 6 = some t6 := by kernel_rfl
theorem k7 : tiOf Tryz.prog 7 = some t7 := by kernel_rfl
theorem k8 : tiOf Tryz.prog 8 = some t8 := by kernel_rfl
theorem k9 : tiOf Tryz.prog 9 = some t9 := by kernel_rfl
theorem k10 : tiOf Tryz.prog 10 = some t10 := by kernel_rfl
theorem k11 : tiOf Tryz.prog 11 = some t11 := by kernel_rfl
theorem k12 : tiOf Tryz.prog 12 = some t12 := by kernel_rfl
theorem k13 : tiOf Tryz.prog 13 = some t13 := by kernel_rfl
theorem k14 : tiOf Tryz.prog 14 = some t14 := by kernel_rfl
theorem k15 : tiOf Tryz.prog 15 = some t15 := by kernel_rfl
theorem k16 : tiOf Tryz.prog 16 = some t16 := by kernel_rfl
theorem k17 : tiOf Tryz.prog 17 = some t17 := by kernel_rfl
theorem k18 : tiOf Tryz.prog 18 = some t18 := by kernel_rfl
theorem k19 : tiOf Tryz.prog 19 = some t19 := by kernel_rfl
theorem k20 : tiOf Tryz.prog 20 = some t20 := by kernel_rfl
theorem k21 : tiOf Tryz.prog 21 = some t21 := by kernel_rfl
theorem k22 : tiOf Tryz.prog 22 = some t22 := by kernel_rfl
theorem k23 : tiOf Tryz.prog 23 = some t23 := by kernel_rfl
theorem k24 : tiOf Tryz.prog 24 = some t24 := by kernel_rfl
theorem k25 : tiOf Tryz.prog 25 = some t25 := by kernel_rfl
theorem k26 : tiOf Tryz.prog 26 = some t26 := by kernel_rfl
theorem k27 : tiOf Tryz.prog 27 = some t27 := by kernel_rfl
theorem k28 : tiOf Tryz.prog 28 = some t28 := by kernel_rfl
theorem k29 : tiOf Tryz.prog 29 = some t29 := by kernel_rfl
theorem k30 : tiOf Tryz.prog 30 = some t30 := by kernel_rfl
theorem k31 : tiOf Tryz.prog 31 = some t31 := by kernel_rfl
theorem k32 : tiOf Tryz.prog 32 = some t32 := by kernel_rfl
theorem k33 : tiOf Tryz.prog 33 = some t33 := by kernel_rfl
theorem k34 : tiOf Tryz.prog 34 = some t34 := by kernel_rfl
theorem k35 : tiOf Tryz.prog 35 = some t35 := by kernel_rfl
theorem k36 : tiOf Tryz.prog 36 = some t36 := by kernel_rfl
theorem k37 : tiOf Tryz.prog 37 = some t37 := by kernel_rfl
theorem k39 : tiOf Tryz.prog 39 = some t39 := by kernel_rfl
theorem k40 : tiOf Tryz.prog 40 = some t40 := by kernel_rfl
theorem k41 : tiOf Tryz.prog 41 = some t41 := by kernel_rfl
theorem k42 : tiOf Tryz.prog 42 = some t42 := by kernel_rfl
theorem k43 : tiOf Tryz.prog 43 = some t43 := by kernel_rfl
theorem k44 : tiOf Tryz.prog 44 = some t44 := by kernel_rfl
theorem k45 : tiOf Tryz.prog 45 = some t45 := by kernel_rfl
theorem k46 : tiOf Tryz.prog 46 = some t46 := by kernel_rfl
theorem k47 : tiOf Tryz.prog 47 = some t47 := by kernel_rfl
theorem k48 : tiOf Tryz.prog 48 = some t48 := by kernel_rfl
theorem k49 : tiOf Tryz.prog 49 = some t49 := by kernel_rfl
theorem k50 : tiOf Tryz.prog 50 = some t50 := by kernel_rfl
theorem k51 : tiOf Tryz.prog 51 = some t51 := by kernel_rfl
theorem k52 : tiOf Tryz.prog 52 = some t52 := by kernel_rfl
theorem k53 : tiOf Tryz.prog 53 = some t53 := by kernel_rfl
theorem k54 : tiOf Tryz.prog 54 = some t54 := by kernel_rfl
theorem k55 : tiOf Tryz.prog 55 = some t55 := by kernel_rfl
theorem k56 : tiOf Tryz.prog 56 = some t56 := by kernel_rfl
theorem k57 : tiOf Tryz.prog 57 = some t57 := by kernel_rfl
theorem k58 : tiOf Tryz.prog 58 = some t58 := by kernel_rfl
theorem k59 : tiOf Tryz.prog 59 = some t59 := by kernel_rfl
theorem k60 : tiOf Tryz.prog 60 = some t60 := by kernel_rfl
theorem k61 : tiOf Tryz.prog 61 = some t61 := by kernel_rfl
theorem k62 : tiOf Tryz.prog 62 = some t62 := by kernel_rfl
theorem k63 : tiOf Tryz.prog 63 = some t63 := by kernel_rfl
theorem k65 : tiOf Tryz.prog 65 = some t65 := by kernel_rfl
theorem k66 : tiOf Tryz.prog 66 = some t66 := by kernel_rfl
theorem k67 : tiOf Tryz.prog 67 = some t67 := by kernel_rfl
theorem k68 : tiOf Tryz.prog 68 = some t68 := by kernel_rfl
theorem k70 : tiOf Tryz.prog 70 = some t70 := by kernel_rfl
theorem k71 : tiOf Tryz.prog 71 = some t71 := by kernel_rfl
theorem k72 : tiOf Tryz.prog 72 = some t72 := by kernel_rfl
theorem k73 : tiOf Tryz.prog 73 = some t73 := by kernel_rfl
theorem k74 : tiOf Tryz.prog 74 = some t74 := by kernel_rfl
theorem k75 : tiOf Tryz.prog 75 = some t75 := by kernel_rfl
theorem k76 : tiOf Tryz.prog 76 = some t76 := by kernel_rfl
theorem k77 : tiOf Tryz.prog 77 = some t77 := by kernel_rfl
theorem k78 : tiOf Tryz.prog 78 = some t78 := by kernel_rfl
theorem k79 : tiOf Tryz.prog 79 = some t79 := by kernel_rfl
theorem k80 : tiOf Tryz.prog 80 = some t80 := by kernel_rfl
theorem k81 : tiOf Tryz.prog 81 = some t81 := by kernel_rfl
theorem k82 : tiOf Tryz.prog 82 = some t82 := by kernel_rfl
theorem k83 : tiOf Tryz.prog 83 = some t83 := by kernel_rfl
theorem k84 : tiOf Tryz.prog 84 = some t84 := by kernel_rfl
theorem k85 : tiOf Tryz.prog 85 = some t85 := by kernel_rfl
theorem k86 : tiOf Tryz.prog 86 = some t86 := by kernel_rfl
theorem k87 : tiOf Tryz.prog 87 = some t87 := by kernel_rfl
theorem k88 : tiOf Tryz.prog 88 = some t88 := by kernel_rfl
theorem k89 : tiOf Tryz.prog 89 = some t89 := by kernel_rfl
theorem k90 : tiOf Tryz.prog 90 = some t90 := by kernel_rfl
theorem k91 : tiOf Tryz.prog 91 = some t91 := by kernel_rfl
theorem k92 : tiOf Tryz.prog 92 = some t92 := by kernel_rfl
theorem k93 : tiOf Tryz.prog 93 = some t93 := by kernel_rfl
theorem k94 : tiOf Tryz.prog 94 = some t94 := by kernel_rfl
theorem k95 : tiOf Tryz.prog 95 = some t95 := by kernel_rfl
theorem k97 : tiOf Tryz.prog 97 = some t97 := by kernel_rfl
theorem k98 : tiOf Tryz.prog 98 = some t98 := by kernel_rfl
theorem k99 : tiOf Tryz.prog 99 = some t99 := by kernel_rfl
theorem k100 : tiOf Tryz.prog 100 = some t100 := by kernel_rfl
theorem k101 : tiOf Tryz.prog 101 = some t101 := by kernel_rfl
theorem k102 : tiOf Tryz.prog 102 = some t102 := by kernel_rfl
theorem k103 : tiOf Tryz.prog 103 = some t103 := by kernel_rfl
theorem k104 : tiOf Tryz.prog 104 = some t104 := by kernel_rfl
theorem k105 : tiOf Tryz.prog 105 = some t105 := by kernel_rfl
theorem k106 : tiOf Tryz.prog 106 = some t106 := by kernel_rfl
theorem k107 : tiOf Tryz.prog 107 = some t107 := by kernel_rfl
theorem k108 : tiOf Tryz.prog 108 = some t108 := by kernel_rfl
theorem k110 : tiOf Tryz.prog 110 = some t110 := by kernel_rfl
theorem k111 : tiOf Tryz.prog 111 = some t111 := by kernel_rfl
theorem k112 : tiOf Tryz.prog 112 = some t112 := by kernel_rfl
theorem k113 : tiOf Tryz.prog 113 = some t113 := by kernel_rfl
theorem k114 : tiOf Tryz.prog 114 = some t114 := by kernel_rfl
theorem k115 : tiOf Tryz.prog 115 = some t115 := by kernel_rfl
theorem k116 : tiOf Tryz.prog 116 = some t116 := by kernel_rfl
theorem k117 : tiOf Tryz.prog 117 = some t117 := by kernel_rfl
theorem k118 : tiOf Tryz.prog 118 = some t118 := by kernel_rfl
theorem k119 : tiOf Tryz.prog 119 = some t119 := by kernel_rfl
theorem k120 : tiOf Tryz.prog 120 = some t120 := by kernel_rfl
theorem k121 : tiOf Tryz.prog 121 = some t121 := by kernel_rfl
theorem k122 : tiOf Tryz.prog 122 = some t122 := by kernel_rfl
theorem k123 : tiOf Tryz.prog 123 = some t123 := by kernel_rfl
theorem k124 : tiOf Tryz.prog 124 = some t124 := by kernel_rfl
theorem k125 : tiOf Tryz.prog 125 = some t125 := by kernel_rfl
theorem k126 : tiOf Tryz.prog 126 = some t126 := by kernel_rfl
theorem k127 : tiOf Tryz.prog 127 = some t127 := by kernel_rfl
theorem k128 : tiOf Tryz.prog 128 = some t128 := by kernel_rfl
theorem k129 : tiOf Tryz.prog 129 = some t129 := by kernel_rfl
theorem k130 : tiOf Tryz.prog 130 = some t130 := by kernel_rfl
theorem k132 : tiOf Tryz.prog 132 = some t132 := by kernel_rfl
theorem k133 : tiOf Tryz.prog 133 = some t133 := by kernel_rfl
theorem k134 : tiOf Tryz.prog 134 = some t134 := by kernel_rfl
theorem k135 : tiOf Tryz.prog 135 = some t135 := by kernel_rfl
theorem k136 : tiOf Tryz.prog 136 = some t136 := by kernel_rfl
theorem k137 : tiOf Tryz.prog 137 = some t137 := by kernel_rfl
theorem k138 : tiOf Tryz.prog 138 = some t138 := by kernel_rfl
theorem k139 : tiOf Tryz.prog 139 = some t139 := by kernel_rfl
theorem k140 : tiOf Tryz.prog 140 = some t140 := by kernel_rfl
theorem k141 : tiOf Tryz.prog 141 = some t141 := by kernel_rfl
theorem k142 : tiOf Tryz.prog 142 = some t142 := by kernel_rfl
theorem k143 : tiOf Tryz.prog 143 = some t143 := by kernel_rfl
theorem k144 : tiOf Tryz.prog 144 = some t144 := by kernel_rfl
theorem k145 : tiOf Tryz.prog 145 = some t145 := by kernel_rfl
theorem k146 : tiOf Tryz.prog 146 = some t146 := by kernel_rfl
theorem k147 : tiOf Tryz.prog 147 = some t147 := by kernel_rfl
theorem k148 : tiOf Tryz.prog 148 = some t148 := by kernel_rfl
theorem k149 : tiOf Tryz.prog 149 = some t149 := by kernel_rfl
theorem k150 : tiOf Tryz.prog 150 = some t150 := by kernel_rfl
theorem k151 : tiOf Tryz.prog 151 = some t151 := by kernel_rfl
theorem k152 : tiOf Tryz.prog 152 = some t152 := by kernel_rfl
theorem k153 : tiOf Tryz.prog 153 = some t153 := by kernel_rfl
theorem k154 : tiOf Tryz.prog 154 = some t154 := by kernel_rfl
theorem k155 : tiOf Tryz.prog 155 = some t155 := by kernel_rfl
theorem k156 : tiOf Tryz.prog 156 = some t156 := by kernel_rfl
theorem k157 : tiOf Tryz.prog 157 = some t157 := by kernel_rfl
theorem k158 : tiOf Tryz.prog 158 = some t158 := by kernel_rfl
theorem k159 : tiOf Tryz.prog 159 = some t159 := by kernel_rfl
theorem k160 : tiOf Tryz.prog 160 = some t160 := by kernel_rfl
theorem k161 : tiOf Tryz.prog 161 = some t161 := by kernel_rfl
theorem k162 : tiOf Tryz.prog 162 = some t162 := by kernel_rfl
theorem k163 : tiOf Tryz.prog 163 = some t163 := by kernel_rfl
theorem k164 : tiOf Tryz.prog 164 = some t164 := by kernel_rfl
theorem k165 : tiOf Tryz.prog 165 = some t165 := by kernel_rfl
theorem k166 : tiOf Tryz.prog 166 = some t166 := by kernel_rfl
theorem k167 : tiOf Tryz.prog 167 = some t167 := by kernel_rfl
theorem k169 : tiOf Tryz.prog 169 = some t169 := by kernel_rfl
theorem k170 : tiOf Tryz.prog 170 = some t170 := by kernel_rfl
theorem k171 : tiOf Tryz.prog 171 = some t171 := by kernel_rfl
theorem k172 : tiOf Tryz.prog 172 = some t172 := by kernel_rfl
theorem k173 : tiOf Tryz.prog 173 = some t173 := by kernel_rfl
theorem k174 : tiOf Tryz.prog 174 = some t174 := by kernel_rfl
theorem k175 : tiOf Tryz.prog 175 = some t175 := by kernel_rfl
theorem k176 : tiOf Tryz.prog 176 = some t176 := by kernel_rfl
theorem k177 : tiOf Tryz.prog 177 = some t177 := by kernel_rfl
theorem k179 : tiOf Tryz.prog 179 = some t179 := by kernel_rfl
theorem k180 : tiOf Tryz.prog 180 = some t180 := by kernel_rfl
theorem k181 : tiOf Tryz.prog 181 = some t181 := by kernel_rfl
theorem k182 : tiOf Tryz.prog 182 = some t182 := by kernel_rfl
theorem k183 : tiOf Tryz.prog 183 = some t183 := by kernel_rfl
theorem k185 : tiOf Tryz.prog 185 = some t185 := by kernel_rfl
theorem k186 : tiOf Tryz.prog 186 = some t186 := by kernel_rfl
theorem k187 : tiOf Tryz.prog 187 = some t187 := by kernel_rfl
theorem k188 : tiOf Tryz.prog 188 = some t188 := by kernel_rfl
theorem k189 : tiOf Tryz.prog 189 = some t189 := by kernel_rfl
theorem k190 : tiOf Tryz.prog 190 = some t190 := by kernel_rfl
theorem k192 : tiOf Tryz.prog 192 = some t192 := by kernel_rfl
theorem k193 : tiOf Tryz.prog 193 = some t193 := by kernel_rfl
theorem k194 : tiOf Tryz.prog 194 = some t194 := by kernel_rfl
theorem k195 : tiOf Tryz.prog 195 = some t195 := by kernel_rfl
theorem k196 : tiOf Tryz.prog 196 = some t196 := by kernel_rfl
theorem k197 : tiOf Tryz.prog 197 = some t197 := by kernel_rfl
theorem k198 : tiOf Tryz.prog 198 = some t198 := by kernel_rfl
theorem k199 : tiOf Tryz.prog 199 = some t199 := by kernel_rfl
theorem k200 : tiOf Tryz.prog 200 = some t200 := by kernel_rfl
theorem k201 : tiOf Tryz.prog 201 = some t201 := by kernel_rfl
theorem k203 : tiOf Tryz.prog 203 = some t203 := by kernel_rfl
theorem k204 : tiOf Tryz.prog 204 = some t204 := by kernel_rfl
theorem k205 : tiOf Tryz.prog 205 = some t205 := by kernel_rfl
theorem k206 : tiOf Tryz.prog 206 = some t206 := by kernel_rfl
theorem k207 : tiOf Tryz.prog 207 = some t207 := by kernel_rfl
theorem k208 : tiOf Tryz.prog 208 = some t208 := by kernel_rfl
theorem k209 : tiOf Tryz.prog 209 = some t209 := by kernel_rfl
theorem k210 : tiOf Tryz.prog 210 = some t210 := by kernel_rfl
theorem k211 : tiOf Tryz.prog 211 = some t211 := by kernel_rfl
theorem k212 : tiOf Tryz.prog 212 = some t212 := by kernel_rfl
theorem k213 : tiOf Tryz.prog 213 = some t213 := by kernel_rfl
theorem k214 : tiOf Tryz.prog 214 = some t214 := by kernel_rfl
theorem k215 : tiOf Tryz.prog 215 = some t215 := by kernel_rfl
theorem k216 : tiOf Tryz.prog 216 = some t216 := by kernel_rfl
theorem k217 : tiOf Tryz.prog 217 = some t217 := by kernel_rfl
theorem k218 : tiOf Tryz.prog 218 = some t218 := by kernel_rfl
theorem k219 : tiOf Tryz.prog 219 = some t219 := by kernel_rfl
theorem k220 : tiOf Tryz.prog 220 = some t220 := by kernel_rfl
theorem k221 : tiOf Tryz.prog 221 = some t221 := by kernel_rfl
theorem k222 : tiOf Tryz.prog 222 = some t222 := by kernel_rfl
theorem k223 : tiOf Tryz.prog 223 = some t223 := by kernel_rfl
theorem k224 : tiOf Tryz.prog 224 = some t224 := by kernel_rfl
theorem k225 : tiOf Tryz.prog 225 = some t225 := by kernel_rfl
theorem k226 : tiOf Tryz.prog 226 = some t226 := by kernel_rfl
theorem k227 : tiOf Tryz.prog 227 = some t227 := by kernel_rfl
theorem k228 : tiOf Tryz.prog 228 = some t228 := by kernel_rfl
theorem k230 : tiOf Tryz.prog 230 = some t230 := by kernel_rfl
theorem k231 : tiOf Tryz.prog 231 = some t231 := by kernel_rfl
theorem k232 : tiOf Tryz.prog 232 = some t232 := by kernel_rfl
theorem k233 : tiOf Tryz.prog 233 = some t233 := by kernel_rfl
theorem k234 : tiOf Tryz.prog 234 = some t234 := by kernel_rfl
theorem k235 : tiOf Tryz.prog 235 = some t235 := by kernel_rfl
theorem k236 : tiOf Tryz.prog 236 = some t236 := by kernel_rfl
theorem k238 : tiOf Tryz.prog 238 = some t238 := by kernel_rfl
theorem k240 : tiOf Tryz.prog 240 = some t240 := by kernel_rfl
theorem k241 : tiOf Tryz.prog 241 = some t241 := by kernel_rfl
theorem k242 : tiOf Tryz.prog 242 = some t242 := by kernel_rfl
theorem k243 : tiOf Tryz.prog 243 = some t243 := by kernel_rfl
theorem k245 : tiOf Tryz.prog 245 = some t245 := by kernel_rfl
theorem k246 : tiOf Tryz.prog 246 = some t246 := by kernel_rfl
theorem k247 : tiOf Tryz.prog 247 = some t247 := by kernel_rfl
theorem k248 : tiOf Tryz.prog 248 = some t248 := by kernel_rfl
theorem k249 : tiOf Tryz.prog 249 = some t249 := by kernel_rfl
theorem k250 : tiOf Tryz.prog 250 = some t250 := by kernel_rfl
theorem k251 : tiOf Tryz.prog 251 = some t251 := by kernel_rfl
theorem k252 : tiOf Tryz.prog 252 = some t252 := by kernel_rfl
theorem k253 : tiOf Tryz.prog 253 = some t253 := by kernel_rfl
theorem k254 : tiOf Tryz.prog 254 = some t254 := by kernel_rfl
theorem k255 : tiOf Tryz.prog 255 = some t255 := by kernel_rfl
theorem k256 : tiOf Tryz.prog 256 = some t256 := by kernel_rfl
theorem k257 : tiOf Tryz.prog 257 = some t257 := by kernel_rfl
theorem k258 : tiOf Tryz.prog 258 = some t258 := by kernel_rfl
theorem k259 : tiOf Tryz.prog 259 = some t259 := by kernel_rfl
theorem k260 : tiOf Tryz.prog 260 = some t260 := by kernel_rfl
theorem k262 : tiOf Tryz.prog 262 = some t262 := by kernel_rfl
theorem k263 : tiOf Tryz.prog 263 = some t263 := by kernel_rfl
theorem k264 : tiOf Tryz.prog 264 = some t264 := by kernel_rfl
theorem k265 : tiOf Tryz.prog 265 = some t265 := by kernel_rfl
theorem k266 : tiOf Tryz.prog 266 = some t266 := by kernel_rfl
theorem k268 : tiOf Tryz.prog 268 = some t268 := by kernel_rfl
theorem k269 : tiOf Tryz.prog 269 = some t269 := by kernel_rfl
theorem k270 : tiOf Tryz.prog 270 = some t270 := by kernel_rfl
theorem k271 : tiOf Tryz.prog 271 = some t271 := by kernel_rfl
theorem k273 : tiOf Tryz.prog 273 = some t273 := by kernel_rfl
theorem k275 : tiOf Tryz.prog 275 = some t275 := by kernel_rfl
theorem k276 : tiOf Tryz.prog 276 = some t276 := by kernel_rfl
theorem k278 : tiOf Tryz.prog 278 = some t278 := by kernel_rfl
theorem k279 : tiOf Tryz.prog 279 = some t279 := by kernel_rfl
theorem k280 : tiOf Tryz.prog 280 = some t280 := by kernel_rfl
theorem k281 : tiOf Tryz.prog 281 = some t281 := by kernel_rfl
theorem k283 : tiOf Tryz.prog 283 = some t283 := by kernel_rfl
theorem k284 : tiOf Tryz.prog 284 = some t284 := by kernel_rfl
theorem k288 : tiOf Tryz.prog 288 = some t288 := by kernel_rfl
theorem k289 : tiOf Tryz.prog 289 = some t289 := by kernel_rfl
theorem k290 : tiOf Tryz.prog 290 = some t290 := by kernel_rfl
theorem k293 : tiOf Tryz.prog 293 = some t293 := by kernel_rfl
theorem k294 : tiOf Tryz.prog 294 = some t294 := by kernel_rfl
theorem k295 : tiOf Tryz.prog 295 = some t295 := by kernel_rfl
theorem k296 : tiOf Tryz.prog 296 = some t296 := by kernel_rfl
theorem k297 : tiOf Tryz.prog 297 = some t297 := by kernel_rfl
theorem k298 : tiOf Tryz.prog 298 = some t298 := by kernel_rfl
theorem k299 : tiOf Tryz.prog 299 = some t299 := by kernel_rfl
theorem k300 : tiOf Tryz.prog 300 = some t300 := by kernel_rfl
theorem k301 : tiOf Tryz.prog 301 = some t301 := by kernel_rfl
theorem k302 : tiOf Tryz.prog 302 = some t302 := by kernel_rfl
theorem k303 : tiOf Tryz.prog 303 = some t303 := by kernel_rfl
theorem k304 : tiOf Tryz.prog 304 = some t304 := by kernel_rfl
theorem k305 : tiOf Tryz.prog 305 = some t305 := by kernel_rfl
theorem k306 : tiOf Tryz.prog 306 = some t306 := by kernel_rfl
theorem k307 : tiOf Tryz.prog 307 = some t307 := by kernel_rfl
def tab : Tree TI := (.node (.node (.node (.node (.node (.node (.node (.node (.node .leaf 1 t1 .leaf) 2 t2 .leaf) 3 t3 (.node .leaf 4 t4 .leaf)) 5 t5 (.node (.node .leaf 6 t6 .leaf) 7 t7 (.node .leaf 8 t8 .leaf))) 9 t9 (.node (.node (.node (.node .leaf 10 t10 .leaf) 11 t11 .leaf) 12 t12 (.node .leaf 13 t13 .leaf)) 14 t14 (.node (.node .leaf 15 t15 .leaf) 16 t16 (.node .leaf 17 t17 .leaf)))) 18 t18 (.node (.node (.node (.node (.node .leaf 19 t19 .leaf) 20 t20 .leaf) 21 t21 (.node .leaf 22 t22 .leaf)) 23 t23 (.node (.node .leaf 24 t24 .leaf) 25 t25 (.node .leaf 26 t26 .leaf))) 27 t27 (.node (.node (.node (.node .leaf 28 t28 .leaf) 29 t29 .leaf) 30 t30 (.node .leaf 31 t31 .leaf)) 32 t32 (.node (.node .leaf 33 t33 .leaf) 34 t34 (.node .leaf 35 t35 .leaf))))) 36 t36 (.node (.node (.node (.node (.node (.node .leaf 37 t37 .leaf) 39 t39 .leaf) 40 t40 (.node .leaf 41 t41 .leaf)) 42 t42 (.node (.node .leaf 43 t43 .leaf) 44 t44 (.node .leaf 45 t45 .leaf))) 46 t46 (.node (.node (.node (.node .leaf 47 t47 .leaf) 48 t48 .leaf) 49 t49 (.node .leaf 50 t50 .leaf)) 51 t51 (.node (.node .leaf 52 t52 .leaf) 53 t53 (.node .leaf 54 t54 .leaf)))) 55 t55 (.node (.node (.node (.node (.node .leaf 56 t56 .leaf) 57 t57 .leaf) 58 t58 (.node .leaf 59 t59 .leaf)) 60 t60 (.node (.node .leaf 61 t61 .leaf) 62 t62 (.node .leaf 63 t63 .leaf))) 65 t65 (.node (.node (.node .leaf 66 t66 .leaf) 67 t67 (.node .leaf 68 t68 .leaf)) 70 t70 (.node (.node .leaf 71 t71 .leaf) 72 t72 (.node .leaf 73 t73 .leaf)))))) 74 t74 (.node (.node (.node (.node (.node (.node (.node .leaf 75 t75 .leaf) 76 t76 .leaf) 77 t77 (.node .leaf 78 t78 .leaf)) 79 t79 (.node (.node .leaf 80 t80 .leaf) 81 t81 (.node .leaf 82 t82 .leaf))) 83 t83 (.node (.node (.node (.node .leaf 84 t84 .leaf) 85 t85 .leaf) 86 t86 (.node .leaf 87 t87 .leaf)) 88 t88 (.node (.node .leaf 89 t89 .leaf) 90 t90 (.node .leaf 91 t91 .leaf)))) 92 t92 (.node (.node (.node (.node (.node .leaf 93 t93 .leaf) 94 t94 .leaf) 95 t95 (.node .leaf 97 t97 .leaf)) 98 t98 (.node (.node .leaf 99 t99 .leaf) 100 t100 (.node .leaf 101 t101 .leaf))) 102 t102 (.node (.node (.node .leaf 103 t103 .leaf) 104 t104 (.node .leaf 105 t105 .leaf)) 106 t106 (.node (.node .leaf 107 t107 .leaf) 108 t108 (.node .leaf 110 t110 .leaf))))) 111 t111 (.node (.node (.node (.node (.node (.node .leaf 112 t112 .leaf) 113 t113 .leaf) 114 t114 (.node .leaf 115 t115 .leaf)) 116 t116 (.node (.node .leaf 117 t117 .leaf) 118 t118 (.node .leaf 119 t119 .leaf))) 120 t120 (.node (.node (.node (.node .leaf 121 t121 .leaf) 122 t122 .leaf) 123 t123 (.node .leaf 124 t124 .leaf)) 125 t125 (.node (.node .leaf 126 t126 .leaf) 127 t127 (.node .leaf 128 t128 .leaf)))) 129 t129 (.node (.node (.node (.node (.node .leaf 130 t130 .leaf) 132 t132 .leaf) 133 t133 (.node .leaf 134 t134 .leaf)) 135 t135 (.node (.node .leaf 136 t136 .leaf) 137 t137 (.node .leaf 138 t138 .leaf))) 139 t139 (.node (.node (.node .leaf 140 t140 .leaf) 141 t141 (.node .leaf 142 t142 .leaf)) 143 t143 (.node (.node .leaf 144 t144 .leaf) 145 t145 (.node .leaf 146 t146 .leaf))))))) 147 t147 (.node (.node (.node (.node (.node (.node (.node (.node .leaf 148 t148 .leaf) 149 t149 .leaf) 150 t150 (.node .leaf 151 t151 .leaf)) 152 t152 (.node (.node .leaf 153 t153 .leaf) 154 t154 (.node .leaf 155 t155 .leaf))) 156 t156 (.node (.node (.node (.node .leaf 157 t157 .leaf) 158 t158 .leaf) 159 t159 (.node .leaf 160 t160 .leaf)) 161 t161 (.node (.node .leaf 162 t162 .leaf) 163 t163 (.node .leaf 164 t164 .leaf)))) 165 t165 (.node (.node (.node (.node (.node .leaf 166 t166 .leaf) 167 t167 .leaf) 169 t169 (.node .leaf 170 t170 .leaf)) 171 t171 (.node (.node .leaf 172 t172 .leaf) 173 t173 (.node .leaf 174 t174 .leaf))) 175 t175 (.node (.node (.node (.node .leaf 176 t176 .leaf) 177 t177 .leaf) 179 t179 (.node .leaf 180 t180 .leaf)) 181 t181 (.node (.node .leaf 182 t182 .leaf) 183 t183 (.node .leaf 185 t185 .leaf))))) 186 t186 (.node (.node (.node (.node (.node (.node .leaf 187 t187 .leaf) 188 t188 .leaf) 189 t189 (.node .leaf 190 t190 .leaf)) 192 t192 (.node (.node .leaf 193 t193 .leaf) 194 t194 (.node .leaf 195 t195 .leaf))) 196 t196 (.node (.node (.node (.node .leaf 197 t197 .leaf) 198 t198 .leaf) 199 t199 (.node .leaf 200 t200 .leaf)) 201 t201 (.node (.node .leaf 203 t203 .leaf) 204 t204 (.node .leaf 205 t205 .leaf)))) 206 t206 (.node (.node (.node (.node (.node .leaf 207 t207 .leaf) 208 t208 .leaf) 209 t209 (.node .leaf 210 t210 .leaf)) 211 t211 (.node (.node .leaf 212 t212 .leaf) 213 t213 (.node .leaf 214 t214 .leaf))) 215 t215 (.node (.node (.node .leaf 216 t216 .leaf) 217 t217 (.node .leaf 218 t218 .leaf)) 219 t219 (.node (.node .leaf 220 t220 .leaf) 221 t221 (.node .leaf 222 t222 .leaf)))))) 223 t223 (.node (.node (.node (.node (.node (.node (.node .leaf 224 t224 .leaf) 225 t225 .leaf) 226 t226 (.node .leaf 227 t227 .leaf)) 228 t228 (.node (.node .leaf 230 t230 .leaf) 231 t231 (.node .leaf 232 t232 .leaf))) 233 t233 (.node (.node (.node (.node .leaf 234 t234 .leaf) 235 t235 .leaf) 236 t236 (.node .leaf 238 t238 .leaf)) 240 t240 (.node (.node .leaf 241 t241 .leaf) 242 t242 (.node .leaf 243 t243 .leaf)))) 245 t245 (.node (.node (.node (.node (.node .leaf 246 t246 .leaf) 247 t247 .leaf) 248 t248 (.node .leaf 249 t249 .leaf)) 250 t250 (.node (.node .leaf 251 t251 .leaf) 252 t252 (.node .leaf 253 t253 .leaf))) 254 t254 (.node (.node (.node .leaf 255 t255 .leaf) 256 t256 (.node .leaf 257 t257 .leaf)) 258 t258 (.node (.node .leaf 259 t259 .leaf) 260 t260 (.node .leaf 262 t262 .leaf))))) 263 t263 (.node (.node (.node (.node (.node (.node .leaf 264 t264 .leaf) 265 t265 .leaf) 266 t266 (.node .leaf 268 t268 .leaf)) 269 t269 (.node (.node .leaf 270 t270 .leaf) 271 t271 (.node .leaf 273 t273 .leaf))) 275 t275 (.node (.node (.node (.node .leaf 276 t276 .leaf) 278 t278 .leaf) 279 t279 (.node .leaf 280 t280 .leaf)) 281 t281 (.node (.node .leaf 283 t283 .leaf) 284 t284 (.node .leaf 288 t288 .leaf)))) 289 t289 (.node (.node (.node (.node (.node .leaf 290 t290 .leaf) 293 t293 .leaf) 294 t294 (.node .leaf 295 t295 .leaf)) 296 t296 (.node (.node .leaf 297 t297 .leaf) 298 t298 (.node .leaf 299 t299 .leaf))) 300 t300 (.node (.node (.node .leaf 301 t301 .leaf) 302 t302 (.node .leaf 303 t303 .leaf)) 304 t304 (.node (.node .leaf 305 t305 .leaf) 306 t306 (.node .leaf 307 t307 .leaf))))))))
theorem tab_ok : tab.All (fun t x => tiOf Tryz.prog t = some x) := ⟨⟨⟨⟨⟨⟨⟨⟨⟨trivial, k1, trivial⟩, k2, trivial⟩, k3, ⟨trivial, k4, trivial⟩⟩, k5, ⟨⟨trivial, k6, trivial⟩, k7, ⟨trivial, k8, trivial⟩⟩⟩, k9, ⟨⟨⟨⟨trivial, k10, trivial⟩, k11, trivial⟩, k12, ⟨trivial, k13, trivial⟩⟩, k14, ⟨⟨trivial, k15, trivial⟩, k16, ⟨trivial, k17, trivial⟩⟩⟩⟩, k18, ⟨⟨⟨⟨⟨trivial, k19, trivial⟩, k20, trivial⟩, k21, ⟨trivial, k22, trivial⟩⟩, k23, ⟨⟨trivial, k24, trivial⟩, k25, ⟨trivial, k26, trivial⟩⟩⟩, k27, ⟨⟨⟨⟨trivial, k28, trivial⟩, k29, trivial⟩, k30, ⟨trivial, k31, trivial⟩⟩, k32, ⟨⟨trivial, k33, trivial⟩, k34, ⟨trivial, k35, trivial⟩⟩⟩⟩⟩, k36, ⟨⟨⟨⟨⟨⟨trivial, k37, trivial⟩, k39, trivial⟩, k40, ⟨trivial, k41, trivial⟩⟩, k42, ⟨⟨trivial, k43, trivial⟩, k44, ⟨trivial, k45, trivial⟩⟩⟩, k46, ⟨⟨⟨⟨trivial, k47, trivial⟩, k48, trivial⟩, k49, ⟨trivial, k50, trivial⟩⟩, k51, ⟨⟨trivial, k52, trivial⟩, k53, ⟨trivial, k54, trivial⟩⟩⟩⟩, k55, ⟨⟨⟨⟨⟨trivial, k56, trivial⟩, k57, trivial⟩, k58, ⟨trivial, k59, trivial⟩⟩, k60, ⟨⟨trivial, k61, trivial⟩, k62, ⟨trivial, k63, trivial⟩⟩⟩, k65, ⟨⟨⟨trivial, k66, trivial⟩, k67, ⟨trivial, k68, trivial⟩⟩, k70, ⟨⟨trivial, k71, trivial⟩, k72, ⟨trivial, k73, trivial⟩⟩⟩⟩⟩⟩, k74, ⟨⟨⟨⟨⟨⟨⟨trivial, k75, trivial⟩, k76, trivial⟩, k77, ⟨trivial, k78, trivial⟩⟩, k79, ⟨⟨trivial, k80, trivial⟩, k81, ⟨trivial, k82, trivial⟩⟩⟩, k83, ⟨⟨⟨⟨trivial, k84, trivial⟩, k85, trivial⟩, k86, ⟨trivial, k87, trivial⟩⟩, k88, ⟨⟨trivial, k89, trivial⟩, k90, ⟨trivial, k91, trivial⟩⟩⟩⟩, k92, ⟨⟨⟨⟨⟨trivial, k93, trivial⟩, k94, trivial⟩, k95, ⟨trivial, k97, trivial⟩⟩, k98, ⟨⟨trivial, k99, trivial⟩, k100, ⟨trivial, k101, trivial⟩⟩⟩, k102, ⟨⟨⟨trivial, k103, trivial⟩, k104, ⟨trivial, k105, trivial⟩⟩, k106, ⟨⟨trivial, k107, trivial⟩, k108, ⟨trivial, k110, trivial⟩⟩⟩⟩⟩, k111, ⟨⟨⟨⟨⟨⟨trivial, k112, trivial⟩, k113, trivial⟩, k114, ⟨trivial, k115, trivial⟩⟩, k116, ⟨⟨trivial, k117, trivial⟩, k118, ⟨trivial, k119, trivial⟩⟩⟩, k120, ⟨⟨⟨⟨trivial, k121, trivial⟩, k122, trivial⟩, k123, ⟨trivial, k124, trivial⟩⟩, k125, ⟨⟨trivial, k126, trivial⟩, k127, ⟨trivial, k128, trivial⟩⟩⟩⟩, k129, ⟨⟨⟨⟨⟨trivial, k130, trivial⟩, k132, trivial⟩, k133, ⟨trivial, k134, trivial⟩⟩, k135, ⟨⟨trivial, k136, trivial⟩, k137, ⟨trivial, k138, trivial⟩⟩⟩, k139, ⟨⟨⟨trivial, k140, trivial⟩, k141, ⟨trivial, k142, trivial⟩⟩, k143, ⟨⟨trivial, k144, trivial⟩, k145, ⟨trivial, k146, trivial⟩⟩⟩⟩⟩⟩⟩, k147, ⟨⟨⟨⟨⟨⟨⟨⟨trivial, k148, trivial⟩, k149, trivial⟩, k150, ⟨trivial, k151, trivial⟩⟩, k152, ⟨⟨trivial, k153, trivial⟩, k154, ⟨trivial, k155, trivial⟩⟩⟩, k156, ⟨⟨⟨⟨trivial, k157, trivial⟩, k158, trivial⟩, k159, ⟨trivial, k160, trivial⟩⟩, k161, ⟨⟨trivial, k162, trivial⟩, k163, ⟨trivial, k164, trivial⟩⟩⟩⟩, k165, ⟨⟨⟨⟨⟨trivial, k166, trivial⟩, k167, trivial⟩, k169, ⟨trivial, k170, trivial⟩⟩, k171, ⟨⟨trivial, k172, trivial⟩, k173, ⟨trivial, k174, trivial⟩⟩⟩, k175, ⟨⟨⟨⟨trivial, k176, trivial⟩, k177, trivial⟩, k179, ⟨trivial, k180, trivial⟩⟩, k181, ⟨⟨trivial, k182, trivial⟩, k183, ⟨trivial, k185, trivial⟩⟩⟩⟩⟩, k186, ⟨⟨⟨⟨⟨⟨trivial, k187, trivial⟩, k188, trivial⟩, k189, ⟨trivial, k190, trivial⟩⟩, k192, ⟨⟨trivial, k193, trivial⟩, k194, ⟨trivial, k195, trivial⟩⟩⟩, k196, ⟨⟨⟨⟨trivial, k197, trivial⟩, k198, trivial⟩, k199, ⟨trivial, k200, trivial⟩⟩, k201, ⟨⟨trivial, k203, trivial⟩, k204, ⟨trivial, k205, trivial⟩⟩⟩⟩, k206, ⟨⟨⟨⟨⟨trivial, k207, trivial⟩, k208, trivial⟩, k209, ⟨trivial, k210, trivial⟩⟩, k211, ⟨⟨trivial, k212, trivial⟩, k213, ⟨trivial, k214, trivial⟩⟩⟩, k215, ⟨⟨⟨trivial, k216, trivial⟩, k217, ⟨trivial, k218, trivial⟩⟩, k219, ⟨⟨trivial, k220, trivial⟩, k221, ⟨trivial, k222, trivial⟩⟩⟩⟩⟩⟩, k223, ⟨⟨⟨⟨⟨⟨⟨trivial, k224, trivial⟩, k225, trivial⟩, k226, ⟨trivial, k227, trivial⟩⟩, k228, ⟨⟨trivial, k230, trivial⟩, k231, ⟨trivial, k232, trivial⟩⟩⟩, k233, ⟨⟨⟨⟨trivial, k234, trivial⟩, k235, trivial⟩, k236, ⟨trivial, k238, trivial⟩⟩, k240, ⟨⟨trivial, k241, trivial⟩, k242, ⟨trivial, k243, trivial⟩⟩⟩⟩, k245, ⟨⟨⟨⟨⟨trivial, k246, trivial⟩, k247, trivial⟩, k248, ⟨trivial, k249, trivial⟩⟩, k250, ⟨⟨trivial, k251, trivial⟩, k252, ⟨trivial, k253, trivial⟩⟩⟩, k254, ⟨⟨⟨trivial, k255, trivial⟩, k256, ⟨trivial, k257, trivial⟩⟩, k258, ⟨⟨trivial, k259, trivial⟩, k260, ⟨trivial, k262, trivial⟩⟩⟩⟩⟩, k263, ⟨⟨⟨⟨⟨⟨trivial, k264, trivial⟩, k265, trivial⟩, k266, ⟨trivial, k268, trivial⟩⟩, k269, ⟨⟨trivial, k270, trivial⟩, k271, ⟨trivial, k273, trivial⟩⟩⟩, k275, ⟨⟨⟨⟨trivial, k276, trivial⟩, k278, trivial⟩, k279, ⟨trivial, k280, trivial⟩⟩, k281, ⟨⟨trivial, k283, trivial⟩, k284, ⟨trivial, k288, trivial⟩⟩⟩⟩, k289, ⟨⟨⟨⟨⟨trivial, k290, trivial⟩, k293, trivial⟩, k294, ⟨trivial, k295, trivial⟩⟩, k296, ⟨⟨trivial, k297, trivial⟩, k298, ⟨trivial, k299, trivial⟩⟩⟩, k300, ⟨⟨⟨trivial, k301, trivial⟩, k302, ⟨trivial, k303, trivial⟩⟩, k304, ⟨⟨trivial, k305, trivial⟩, k306, ⟨trivial, k307, trivial⟩⟩⟩⟩⟩⟩⟩⟩
theorem mixed : Tryz.prog.follows .mixedOrders = true := by kernel_rfl
end Go.Proofs.YtjgooecohepkoaaGreatDoor
