/-
 Prepare: what each function computes (printed by g5.py).
-/
import Derived.Test.YtgpjfmjceamonaaGreatDoorEvO
import Derived.Test.YtgpjfmjceamonaaGreatDoorEv21
import Derived.Test.YtgpjfmjceamonaaGreatDoorRows
import Derived.KernelRfl
namespace Go.Ev.L6
open Go.Proofs
abbrev Y0 : Ty := .st (.pair .bool (.int .i64))
abbrev Y1 : Ty := .st (.pair (.int .i64) (.pair (.int .i64) (.pair .flt (.pair .str (.int .i64)))))
abbrev Y2 : Ty := .st (.pair (.int .i64) (.pair (.int .i64) (.pair (.int .i64) (.pair (.int .i64) (.int .i64)))))
abbrev Y3 : Ty := .st (.pair .str (.pair (.int .i64) (.pair (.int .i64) (.int .i64))))
abbrev Y4 : Ty := .st (.pair .str (.pair (.int .i64) (.pair (.int .i64) (.pair .bool (.pair (.int .i64) (.pair (.row Y0) (.pair (.row Y1) (.pair (.row Y2) (.row Y3)))))))))
abbrev Y5 : Ty := .st (.row Y4)
abbrev Y6 : Ty := .st (.pair (.int .i64) (.pair (.int .i64) (.pair (.int .i64) (.pair (.int .i64) (.pair (.int .i64) (.pair (.int .i64) (.int .i64)))))))
abbrev Y7 : Ty := .st (.row Y6)
abbrev Y8 : Ty := .st (.pair (.row Y7) (.int .i64))
abbrev Y9 : Ty := .st (.pair (.row .str) (.pair (.row .str) (.pair (.int .i64) (.pair (.int .i64) (.int .i64)))))
abbrev Y10 : Ty := .st (.pair Y1 (.pair Y1 (.int .i64)))
abbrev Y11 : Ty := .st (.pair (.row Y10) (.int .i64))
abbrev Y12 : Ty := .st (.pair (.int .i64) (.pair (.int .i64) (.pair (.int .i64) (.pair Y11 (.pair (.int .i64) (.pair .bool (.pair (.int .i64) (.pair (.row (.int .i64)) Y1))))))))
abbrev Y13 : Ty := .st (.pair (.int .i64) (.int .i64))
abbrev Y14 : Ty := .st (.pair (.int .i64) (.pair Y1 (.pair (.int .i64) (.row Y1))))
abbrev Y15 : Ty := .st (.pair (.int .i64) (.row Y1))
abbrev Y16 : Ty := .st (.pair .bool (.pair (.int .i64) (.pair (.int .i64) (.pair (.int .i64) (.row Y15)))))
abbrev Y17 : Ty := .st (.pair (.int .i64) (.pair (.row Y1) .str))
abbrev Y18 : Ty := .st (.pair (.int .i64) (.pair (.int .i64) (.pair (.int .i64) (.pair .bool (.pair (.row Y1) (.pair (.int .i64) (.pair (.int .i64) (.pair (.int .i64) (.pair (.int .i64) (.pair (.int .i64) (.pair (.row Y14) (.pair (.row Y16) (.pair .bool (.pair .bool (.pair Y17 (.int .i64))))))))))))))))
abbrev Y19 : Ty := .st (.pair (.int .i64) (.pair Y1 (.pair (.row Y18) (.pair (.int .i64) (.pair .bool (.row Y1))))))
abbrev Y20 : Ty := .st (.pair (.int .i64) (.pair (.int .i64) (.pair (.int .i64) (.pair (.int .i64) .str))))
abbrev Y21 : Ty := .st (.pair (.int .i64) (.pair (.row Y20) (.pair (.row .str) (.pair .str (.pair .str (.pair (.int .i64) (.int .i64)))))))
abbrev Y22 : Ty := .st (.pair (.int .i64) (.pair (.int .i64) (.pair (.int .i64) (.pair (.int .i64) (.pair (.int .i64) (.pair (.row Y12) (.pair (.row Y13) (.pair (.int .i64) (.pair (.int .i64) (.pair (.row Y19) (.pair (.int .i64) (.pair .bool (.pair (.row Y1) (.pair Y17 (.pair .bool (.pair (.int .i64) (.pair (.int .i64) (.pair (.int .i64) Y21))))))))))))))))))
abbrev Y23 : Ty := .st (.pair (.int .i64) (.pair (.int .i64) (.int .i64)))
abbrev Y24 : Ty := .st (.pair .bool (.pair (.int .i64) (.int .i64)))
abbrev Y25 : Ty := .st (.pair .bool (.pair (.row (.int .i64)) (.row Y24)))
abbrev Y26 : Ty := .st (.pair (.int .i64) (.pair (.int .i64) (.pair (.int .i64) (.pair (.row Y1) (.pair (.int .i64) (.pair (.int .i64) (.pair (.int .i64) (.pair (.int .i64) (.pair (.int .i64) (.pair (.row Y14) (.pair (.row (.int .i64)) (.pair (.row Y16) (.pair .bool (.pair .bool (.pair Y17 (.int .i64))))))))))))))))
abbrev Y27 : Ty := .st (.pair (.int .i64) (.pair Y1 (.pair (.row Y26) (.pair (.int .i64) (.pair .bool (.row Y1))))))
abbrev Y28 : Ty := .st (.pair .str .str)
abbrev Y29 : Ty := .st (.pair (.int .i64) (.pair (.int .i64) (.row Y28)))
abbrev Y30 : Ty := .st (.pair .bool (.pair (.int .i64) (.row Y29)))
abbrev Y31 : Ty := .st (.pair Y5 (.pair Y8 (.pair Y9 (.pair (.int .i64) (.pair (.int .i64) (.pair (.int .i64) (.pair (.int .i64) (.pair (.int .i64) (.pair (.row Y12) (.pair (.row Y13) (.pair (.int .i64) (.pair (.int .i64) (.pair (.row Y27) (.pair (.int .i64) (.pair (.row Y1) (.pair .bool (.pair Y17 (.pair .bool (.pair (.int .i64) (.pair (.int .i64) (.pair (.int .i64) (.pair (.int .i64) (.pair Y21 (.pair (.int .i64) Y30))))))))))))))))))))))))
abbrev Y32 : Ty := .st (.pair (.int .i64) Y25)
abbrev Y33 : Ty := .st (.pair (.int .i64) (.pair (.int .i64) (.pair (.int .i64) (.int .i64))))
abbrev Z0 : DT := .st (.pair (.fl .str) (.pair (.fl (.int .i64)) (.pair (.fl (.int .i64)) (.pair (.fl .bool) (.pair (.fl (.int .i64)) (.pair (.row 224 (.fl Y0)) (.pair (.row 128 (.fl Y1)) (.pair (.row 118 (.fl Y2)) (.row 221 (.fl Y3))))))))))
abbrev Z1 : DT := .st (.row 76 (.fl Y6))
abbrev Z2 : DT := .st (.pair (.fl .str) (.pair (.fl (.int .i64)) (.pair (.fl (.int .i64)) (.pair (.fl .bool) (.pair (.fl (.int .i64)) (.pair (.row 281 (.fl Y0)) (.pair (.row 268 (.fl Y1)) (.pair (.row 284 (.fl Y2)) (.row 270 (.fl Y3))))))))))
abbrev Z3 : DT := .st (.pair (.row 240 (.fl Y10)) (.fl (.int .i64)))
abbrev Z4 : DT := .st (.pair (.fl (.int .i64)) (.pair (.fl (.int .i64)) (.pair (.fl (.int .i64)) (.pair Z3 (.pair (.fl (.int .i64)) (.pair (.fl .bool) (.pair (.fl (.int .i64)) (.pair (.row 3 (.fl (.int .i64))) (.fl Y1)))))))))
abbrev Z5 : DT := .st (.pair (.fl (.int .i64)) (.pair (.fl Y1) (.pair (.fl (.int .i64)) (.row 128 (.fl Y1)))))
abbrev Z6 : DT := .st (.pair (.fl (.int .i64)) (.row 128 (.fl Y1)))
abbrev Z7 : DT := .st (.pair (.fl .bool) (.pair (.fl (.int .i64)) (.pair (.fl (.int .i64)) (.pair (.fl (.int .i64)) (.row 252 Z6)))))
abbrev Z8 : DT := .st (.pair (.fl (.int .i64)) (.pair (.row 128 (.fl Y1)) (.fl .str)))
abbrev Z9 : DT := .st (.pair (.fl (.int .i64)) (.pair (.fl (.int .i64)) (.pair (.fl (.int .i64)) (.pair (.row 128 (.fl Y1)) (.pair (.fl (.int .i64)) (.pair (.fl (.int .i64)) (.pair (.fl (.int .i64)) (.pair (.fl (.int .i64)) (.pair (.fl (.int .i64)) (.pair (.row 242 Z5) (.pair (.row 3 (.fl (.int .i64))) (.pair (.row 247 Z7) (.pair (.fl .bool) (.pair (.fl .bool) (.pair Z8 (.fl (.int .i64)))))))))))))))))
abbrev Z10 : DT := .st (.pair (.fl (.int .i64)) (.pair (.fl Y1) (.pair (.row 169 Z9) (.pair (.fl (.int .i64)) (.pair (.fl .bool) (.row 128 (.fl Y1)))))))
abbrev Z11 : DT := .st (.pair (.fl .bool) (.pair (.fl (.int .i64)) (.pair (.fl (.int .i64)) (.pair (.fl (.int .i64)) (.row 254 Z6)))))
abbrev Z12 : DT := .st (.pair (.fl (.int .i64)) (.pair (.fl (.int .i64)) (.pair (.fl (.int .i64)) (.pair (.fl .bool) (.pair (.row 128 (.fl Y1)) (.pair (.fl (.int .i64)) (.pair (.fl (.int .i64)) (.pair (.fl (.int .i64)) (.pair (.fl (.int .i64)) (.pair (.fl (.int .i64)) (.pair (.row 244 Z5) (.pair (.row 250 Z11) (.pair (.fl .bool) (.pair (.fl .bool) (.pair Z8 (.fl (.int .i64)))))))))))))))))
abbrev Z13 : DT := .st (.pair (.fl (.int .i64)) (.pair (.fl Y1) (.pair (.row 173 Z12) (.pair (.fl (.int .i64)) (.pair (.fl .bool) (.row 128 (.fl Y1)))))))
abbrev Z14 : DT := .st (.pair (.fl .bool) (.pair (.row 3 (.fl (.int .i64))) (.row 278 (.fl Y24))))
abbrev Z15 : DT := .st (.pair (.fl (.int .i64)) Z14)
abbrev Z16 : DT := .st (.pair (.fl (.int .i64)) (.pair (.fl (.int .i64)) (.row 335 (.fl Y28))))
def tbl1 : List (Int × List Int) := [(1, [7, 0, 0, 0]), (2, [8, 0, 0, 0]), (3, [0, 0, 0, 0]), (4, [1, 9, 0, 0]), (5, [1, 2, 0, 0]), (6, [1, 2, 0, 0]), (7, [1, 5, 0, 0]), (8, [5, 2, 0, 0]), (9, [1, 10, 0, 0]), (10, [10, 2, 0, 0]), (11, [1, 11, 0, 0]), (12, [1, 0, 0, 0]), (13, [4, 2, 2, 0]), (14, [4, 2, 3, 0]), (15, [1, 2, 2, 0]), (16, [2, 2, 2, 0]), (17, [1, 14, 2, 0]), (18, [1, 13, 2, 2]), (19, [12, 0, 0, 0]), (20, [2, 12, 0, 0]), (21, [2, 12, 0, 0]), (22, [1, 0, 0, 0]), (23, [6, 2, 0, 0]), (24, [6, 3, 0, 0]), (25, [1, 3, 0, 0]), (26, [1, 6, 15, 0]), (27, [1, 6, 0, 0]), (28, [1, 2, 3, 0]), (29, [3, 0, 0, 0]), (30, [2, 0, 0, 0]), (31, [12, 17, 0, 0]), (32, [0, 0, 0, 0]), (33, [16, 0, 0, 0]), (34, [16, 0, 0, 0]), (35, [2, 3, 0, 0]), (36, [0, 0, 0, 0]), (37, [18, 0, 0, 0]), (38, [18, 12, 0, 0]), (39, [18, 12, 0, 0]), (40, [19, 0, 0, 0]), (41, [20, 12, 1, 0]), (42, [1, 0, 0, 0])]
def env : Env := { tys := [(2, ⟨(.int .i64), 8⟩), (3, ⟨(.int .i64), 8⟩), (4, ⟨.bool, 1⟩), (5, ⟨(.int .u8), 1⟩), (9, ⟨.str, 16⟩), (22, ⟨(.row Y4), 24⟩), (24, ⟨Y5, 24⟩), (26, ⟨(.row Y7), 24⟩), (28, ⟨Y8, 32⟩), (30, ⟨(.row Y4), 24⟩), (32, ⟨Y5, 24⟩), (39, ⟨(.row .str), 24⟩), (41, ⟨Y9, 72⟩), (43, ⟨(.row Y12), 24⟩), (44, ⟨(.row Y13), 24⟩), (45, ⟨(.row Y19), 24⟩), (46, ⟨(.row Y1), 24⟩), (48, ⟨Y17, 48⟩), (49, ⟨(.row Y20), 24⟩), (51, ⟨Y21, 104⟩), (53, ⟨Y22, 352⟩), (55, ⟨Y9, 72⟩), (64, ⟨Y23, 24⟩), (67, ⟨(.row Y0), 24⟩), (68, ⟨(.row Y2), 24⟩), (69, ⟨(.row Y3), 24⟩), (71, ⟨Y4, 144⟩), (72, ⟨(.row Y6), 24⟩), (74, ⟨Y7, 24⟩), (76, ⟨Y6, 56⟩), (108, ⟨(.row Y0), 24⟩), (109, ⟨(.row Y1), 24⟩), (110, ⟨(.row Y2), 24⟩), (111, ⟨(.row Y3), 24⟩), (113, ⟨Y4, 144⟩), (114, ⟨(.row Y25), 24⟩), (118, ⟨Y2, 40⟩), (126, ⟨.flt, 8⟩), (128, ⟨Y1, 48⟩), (137, ⟨(.row Y12), 24⟩), (138, ⟨(.row Y27), 24⟩), (140, ⟨Y17, 48⟩), (141, ⟨(.row Y29), 24⟩), (143, ⟨Y30, 40⟩), (145, ⟨Y31, 536⟩), (149, ⟨(.row Y10), 24⟩), (151, ⟨Y11, 32⟩), (152, ⟨(.row (.int .i64)), 24⟩), (154, ⟨Y12, 152⟩), (156, ⟨Y12, 152⟩), (159, ⟨Y13, 16⟩), (160, ⟨(.row Y26), 24⟩), (162, ⟨Y27, 120⟩), (163, ⟨(.row Y18), 24⟩), (165, ⟨Y19, 120⟩), (166, ⟨(.row Y14), 24⟩), (167, ⟨(.row Y16), 24⟩), (169, ⟨Y26, 224⟩), (170, ⟨(.row Y14), 24⟩), (171, ⟨(.row Y16), 24⟩), (173, ⟨Y18, 208⟩), (193, ⟨(.row .bool), 24⟩), (196, ⟨(.row Y24), 24⟩), (198, ⟨Y25, 56⟩), (207, ⟨(.row Y32), 24⟩), (210, ⟨Y32, 64⟩), (221, ⟨Y3, 40⟩), (224, ⟨Y0, 16⟩), (225, ⟨(.row Y32), 24⟩), (229, ⟨Y32, 64⟩), (236, ⟨(.row (.int .u8)), 24⟩), (238, ⟨Y20, 48⟩), (240, ⟨Y10, 104⟩), (242, ⟨Y14, 88⟩), (244, ⟨Y14, 88⟩), (245, ⟨(.row Y15), 24⟩), (247, ⟨Y16, 56⟩), (248, ⟨(.row Y15), 24⟩), (250, ⟨Y16, 56⟩), (252, ⟨Y15, 32⟩), (254, ⟨Y15, 32⟩), (258, ⟨(.row (.row .str)), 24⟩), (268, ⟨Y1, 48⟩), (270, ⟨Y3, 40⟩), (278, ⟨Y24, 24⟩), (281, ⟨Y0, 16⟩), (284, ⟨Y2, 40⟩), (289, ⟨(.int .i64), 8⟩), (290, ⟨Y33, 32⟩), (293, ⟨Y33, 32⟩), (330, ⟨(.row Y28), 24⟩), (332, ⟨Y29, 40⟩), (335, ⟨Y28, 32⟩)], els := [(22, 113), (26, 74), (30, 71), (39, 9), (43, 156), (44, 159), (45, 165), (46, 128), (49, 238), (67, 224), (68, 118), (69, 221), (72, 76), (108, 281), (109, 268), (110, 284), (111, 270), (114, 198), (137, 154), (138, 162), (141, 332), (149, 240), (152, 3), (160, 169), (163, 173), (166, 242), (167, 247), (170, 244), (171, 250), (193, 4), (196, 278), (207, 210), (225, 229), (236, 5), (245, 252), (248, 254), (258, 39), (330, 335)], flds := [(24, [(0, 1, false)]), (28, [(0, 1, false), (1, 1, false)]), (32, [(0, 1, false)]), (41, [(0, 1, false), (1, 1, false), (2, 1, false), (3, 1, false), (4, 1, false)]), (48, [(0, 1, false), (1, 1, false), (2, 1, false)]), (51, [(0, 1, false), (1, 1, false), (2, 1, false), (3, 1, false), (4, 1, false), (5, 1, false), (6, 1, false)]), (53, [(0, 1, false), (1, 1, false), (2, 1, false), (3, 1, false), (4, 1, false), (5, 1, false), (6, 1, false), (7, 1, false), (8, 1, false), (9, 1, false), (10, 1, false), (11, 1, false), (12, 1, false), (13, 3, true), (16, 1, false), (17, 1, false), (18, 1, false), (19, 1, false), (20, 7, true)]), (55, [(0, 1, false), (1, 1, false), (2, 1, false), (3, 1, false), (4, 1, false)]), (64, [(0, 1, false), (1, 1, false), (2, 1, false)]), (71, [(0, 1, false), (1, 1, false), (2, 1, false), (3, 1, false), (4, 1, false), (5, 1, false), (6, 1, false), (7, 1, false), (8, 1, false)]), (74, [(0, 1, false)]), (76, [(0, 1, false), (1, 1, false), (2, 1, false), (3, 1, false), (4, 1, false), (5, 1, false), (6, 1, false)]), (113, [(0, 1, false), (1, 1, false), (2, 1, false), (3, 1, false), (4, 1, false), (5, 1, false), (6, 1, false), (7, 1, false), (8, 1, false)]), (118, [(0, 1, false), (1, 1, false), (2, 1, false), (3, 1, false), (4, 1, false)]), (128, [(0, 1, false), (1, 1, false), (2, 1, false), (3, 1, false), (4, 1, false)]), (140, [(0, 1, false), (1, 1, false), (2, 1, false)]), (143, [(0, 1, false), (1, 1, false), (2, 1, false)]), (145, [(0, 1, true), (1, 2, true), (3, 5, true), (8, 1, false), (9, 1, false), (10, 1, false), (11, 1, false), (12, 1, false), (13, 1, false), (14, 1, false), (15, 1, false), (16, 1, false), (17, 1, false), (18, 1, false), (19, 1, false), (20, 1, false), (21, 3, true), (24, 1, false), (25, 1, false), (26, 1, false), (27, 1, false), (28, 1, false), (29, 7, true), (36, 1, false), (37, 3, true)]), (151, [(0, 1, false), (1, 1, false)]), (154, [(0, 1, false), (1, 1, false), (2, 1, false), (3, 2, true), (5, 1, false), (6, 1, false), (7, 1, false), (8, 1, false), (9, 5, true)]), (156, [(0, 1, false), (1, 1, false), (2, 1, false), (3, 2, true), (5, 1, false), (6, 1, false), (7, 1, false), (8, 1, false), (9, 5, true)]), (159, [(0, 1, false), (1, 1, false)]), (162, [(0, 1, false), (1, 5, true), (6, 1, false), (7, 1, false), (8, 1, false), (9, 1, false)]), (165, [(0, 1, false), (1, 5, true), (6, 1, false), (7, 1, false), (8, 1, false), (9, 1, false)]), (169, [(0, 1, false), (1, 1, false), (2, 1, false), (3, 1, false), (4, 1, false), (5, 1, false), (6, 1, false), (7, 1, false), (8, 1, false), (9, 1, false), (10, 1, false), (11, 1, false), (12, 1, false), (13, 1, false), (14, 3, true), (17, 1, false)]), (173, [(0, 1, false), (1, 1, false), (2, 1, false), (3, 1, false), (4, 1, false), (5, 1, false), (6, 1, false), (7, 1, false), (8, 1, false), (9, 1, false), (10, 1, false), (11, 1, false), (12, 1, false), (13, 1, false), (14, 3, true), (17, 1, false)]), (198, [(0, 1, false), (1, 1, false), (2, 1, false)]), (210, [(0, 1, false), (1, 3, true)]), (221, [(0, 1, false), (1, 1, false), (2, 1, false), (3, 1, false)]), (224, [(0, 1, false), (1, 1, false)]), (229, [(0, 1, false), (1, 3, true)]), (238, [(0, 1, false), (1, 1, false), (2, 1, false), (3, 1, false), (4, 1, false)]), (240, [(0, 5, true), (5, 5, true), (10, 1, false)]), (242, [(0, 1, false), (1, 5, true), (6, 1, false), (7, 1, false)]), (244, [(0, 1, false), (1, 5, true), (6, 1, false), (7, 1, false)]), (247, [(0, 1, false), (1, 1, false), (2, 1, false), (3, 1, false), (4, 1, false)]), (250, [(0, 1, false), (1, 1, false), (2, 1, false), (3, 1, false), (4, 1, false)]), (252, [(0, 1, false), (1, 1, false)]), (254, [(0, 1, false), (1, 1, false)]), (268, [(0, 1, false), (1, 1, false), (2, 1, false), (3, 1, false), (4, 1, false)]), (270, [(0, 1, false), (1, 1, false), (2, 1, false), (3, 1, false)]), (278, [(0, 1, false), (1, 1, false), (2, 1, false)]), (281, [(0, 1, false), (1, 1, false)]), (284, [(0, 1, false), (1, 1, false), (2, 1, false), (3, 1, false), (4, 1, false)]), (332, [(0, 1, false), (1, 1, false), (2, 1, false)]), (335, [(0, 1, false), (1, 1, false)])], globs := [(1, tbl1)], eqs := [64, 278], maps := [292], imaps := [296], arrs := [290, 293], deeps := [] }
def envD : Env := { env with deeps := [(39, (.row 9 (.fl .str))), (71, Z0), (74, Z1), (113, Z2), (154, Z4), (156, Z4), (162, Z10), (165, Z13), (169, Z9), (173, Z12), (198, Z14), (210, Z15), (229, Z15), (242, Z5), (244, Z5), (247, Z7), (250, Z11), (252, Z6), (254, Z6), (332, Z16)] }
noncomputable def f129 (x : Nat × Unit) : Option ((Bool × Unit) × Unit) := some ((blt (wr (x.1 : Int)) (0 : Int), ()), ())
def ps129 : List VS := [.val .flt]
def rs129 : List VS := [.val .bool]
/-! ### loop.example/loom/laws.szUpS -/
abbrev S0 := Bool × Int
abbrev S1 := Int × Int × Nat × ByteArray × Int
abbrev S2 := Int × Int × Int × Int × Int
abbrev S3 := ByteArray × Int × Int × Int
abbrev S4 := Bool × Int × Int
abbrev S6 := Bool × (List Int) × List S4
abbrev S5 := Int × S6
abbrev S7 := Int × Int × Int × Int × Int × Int × Int
abbrev S8 := List S7
abbrev S9 := ByteArray × Int × Int × Bool × Int × (List S0) × (List S1) × (List S2) × List S3
def upd0 (e : S9) (v : ByteArray) : S9 := (v, e.2)
def put0 (xs : List S9) (i : Int) (v : ByteArray) : List S9 := xs.set i.toNat (upd0 (xs.getD i.toNat ((⟨#[]⟩ : ByteArray), (0 : Int), (0 : Int), false, (0 : Int), ([] : List S0), ([] : List S1), ([] : List S2), ([] : List S3))) v)
def upd1 (e : S9) (v : Int) : S9 := (e.1, v, e.2.2)
def put1 (xs : List S9) (i : Int) (v : Int) : List S9 := xs.set i.toNat (upd1 (xs.getD i.toNat ((⟨#[]⟩ : ByteArray), (0 : Int), (0 : Int), false, (0 : Int), ([] : List S0), ([] : List S1), ([] : List S2), ([] : List S3))) v)
def upd2 (e : S9) (v : Int) : S9 := (e.1, e.2.1, v, e.2.2.2)
def put2 (xs : List S9) (i : Int) (v : Int) : List S9 := xs.set i.toNat (upd2 (xs.getD i.toNat ((⟨#[]⟩ : ByteArray), (0 : Int), (0 : Int), false, (0 : Int), ([] : List S0), ([] : List S1), ([] : List S2), ([] : List S3))) v)
def upd3 (e : S9) (v : Bool) : S9 := (e.1, e.2.1, e.2.2.1, v, e.2.2.2.2)
def put3 (xs : List S9) (i : Int) (v : Bool) : List S9 := xs.set i.toNat (upd3 (xs.getD i.toNat ((⟨#[]⟩ : ByteArray), (0 : Int), (0 : Int), false, (0 : Int), ([] : List S0), ([] : List S1), ([] : List S2), ([] : List S3))) v)
def upd4 (e : S9) (v : Int) : S9 := (e.1, e.2.1, e.2.2.1, e.2.2.2.1, v, e.2.2.2.2.2)
def put4 (xs : List S9) (i : Int) (v : Int) : List S9 := xs.set i.toNat (upd4 (xs.getD i.toNat ((⟨#[]⟩ : ByteArray), (0 : Int), (0 : Int), false, (0 : Int), ([] : List S0), ([] : List S1), ([] : List S2), ([] : List S3))) v)
def upd5 (e : S9) (v : (List S3)) : S9 := (e.1, e.2.1, e.2.2.1, e.2.2.2.1, e.2.2.2.2.1, e.2.2.2.2.2.1, e.2.2.2.2.2.2.1, e.2.2.2.2.2.2.2.1, v)
def put5 (xs : List S9) (i : Int) (v : (List S3)) : List S9 := xs.set i.toNat (upd5 (xs.getD i.toNat ((⟨#[]⟩ : ByteArray), (0 : Int), (0 : Int), false, (0 : Int), ([] : List S0), ([] : List S1), ([] : List S2), ([] : List S3))) v)
def upd6 (e : S9) (v : (List S2)) : S9 := (e.1, e.2.1, e.2.2.1, e.2.2.2.1, e.2.2.2.2.1, e.2.2.2.2.2.1, e.2.2.2.2.2.2.1, v, e.2.2.2.2.2.2.2.2)
def put6 (xs : List S9) (i : Int) (v : (List S2)) : List S9 := xs.set i.toNat (upd6 (xs.getD i.toNat ((⟨#[]⟩ : ByteArray), (0 : Int), (0 : Int), false, (0 : Int), ([] : List S0), ([] : List S1), ([] : List S2), ([] : List S3))) v)
def upd7 (e : S9) (v : (List S1)) : S9 := (e.1, e.2.1, e.2.2.1, e.2.2.2.1, e.2.2.2.2.1, e.2.2.2.2.2.1, v, e.2.2.2.2.2.2.2)
def put7 (xs : List S9) (i : Int) (v : (List S1)) : List S9 := xs.set i.toNat (upd7 (xs.getD i.toNat ((⟨#[]⟩ : ByteArray), (0 : Int), (0 : Int), false, (0 : Int), ([] : List S0), ([] : List S1), ([] : List S2), ([] : List S3))) v)
def upd8 (e : S9) (v : (List S0)) : S9 := (e.1, e.2.1, e.2.2.1, e.2.2.2.1, e.2.2.2.2.1, v, e.2.2.2.2.2.2)
def put8 (xs : List S9) (i : Int) (v : (List S0)) : List S9 := xs.set i.toNat (upd8 (xs.getD i.toNat ((⟨#[]⟩ : ByteArray), (0 : Int), (0 : Int), false, (0 : Int), ([] : List S0), ([] : List S1), ([] : List S2), ([] : List S3))) v)
def upd9 (_e : S8) (v : (List S7)) : S8 := v
def put9 (xs : List S8) (i : Int) (v : (List S7)) : List S8 := xs.set i.toNat (upd9 (xs.getD i.toNat ([] : List S7)) v)
abbrev S10 := Int × Int × Int × Int × ByteArray
abbrev S11 := S1 × S1 × Int
abbrev S12 := Int × S1 × Int × List S1
abbrev S14 := Int × List S1
abbrev S13 := Bool × Int × Int × Int × List S14
abbrev S16 := (List S11) × Int
abbrev S15 := Int × Int × Int × S16 × Int × Bool × Int × (List Int) × S1
abbrev S17 := Int × Int
abbrev S20 := Int × (List S1) × ByteArray
abbrev S19 := Int × Int × Int × Bool × (List S1) × Int × Int × Int × Int × Int × (List S12) × (List S13) × Bool × Bool × S20 × Int
abbrev S18 := Int × S1 × (List S19) × Int × Bool × List S1
abbrev S21 := Int × Int × Int × (List S1) × Int × Int × Int × Int × Int × (List S12) × (List Int) × (List S13) × Bool × Bool × S20 × Int
abbrev S22 := Int × S1 × (List S21) × Int × Bool × List S1
abbrev S24 := ByteArray × ByteArray
abbrev S23 := Int × Int × List S24
def ps106 : List VS := [.val (.row Y0), .val (.int .i64)]
def rs106 : List VS := [.val (.int .i64)]
noncomputable def f106 (x : (List S0) × Int × Unit) : Option ((Int × Unit) × (Unit)) :=
 let v4 := (wr (x.2.1 - (x.1.length : Int)))
 bif (blt v4 (0 : Int)) then some (((-1 : Int), ()), ())
 else some ((v4, ()), ())
/-! ### loop.example/loom/laws.szValue -/
def ps151 : List VS := [.val Y1, .val (.int .i64)]
def rs151 : List VS := [.val (.int .i64)]
noncomputable def f151 (x : S1 × Int × Unit) : Option ((Int × Unit) × (Unit)) :=
 let v4 := (wr (x.2.1 - (x.1.2.2.2.1.size : Int)))
 bif (blt v4 (0 : Int)) then some (((-1 : Int), ()), ())
 else some ((v4, ()), ())
/-! ### loop.example/loom/laws.szValueS -/
def sh107_20 : Sh := ⟨[0, 1, 5], [.val (.row Y1), .val (.int .i64), .val (.int .i64)], []⟩
def outs107_20 : List (Ex × Sh) := [((.exit 0), ⟨[1], [.val (.int .i64)], []⟩), (.ret, ⟨[4], [.val (.int .i64)], []⟩)]
noncomputable def f107_20 (x : (List S1) × Int × Int × Unit) : Option (((List S1) × Int × Int × Unit) ⊕ ((Int × Unit) ⊕ (Int × Unit))) :=
 let a6 := x.1
 let left7 := x.2.1
 let i8 := x.2.2.1
 bif (blt i8 (a6.length : Int)) then (
  bif (inR i8 (a6.length : Int)) then (
   (f151 ((a6.getD i8.toNat ((0 : Int), (0 : Int), (0 : Nat), (⟨#[]⟩ : ByteArray), (0 : Int))), left7, ())).bind fun r11 =>
   bif (blt r11.1.1 (0 : Int)) then some (.inr (.inr ((-1 : Int), ())))
   else some (.inl (a6, r11.1.1, (wr (i8 + (1 : Int))), ())))
  else none)
 else some (.inr (.inl (left7, ())))
def ps107 : List VS := [.val (.row Y1), .val (.int .i64)]
def rs107 : List VS := [.val (.int .i64)]
noncomputable def f107 (x : (List S1) × Int × Unit) : Option ((Int × Unit) × (Unit)) :=
 let a1 := x.1
 let v4 := (wr (x.2.1 - (a1.length : Int)))
 bif (blt v4 (0 : Int)) then some (((-1 : Int), ()), ())
 else (
  (loopF f107_20 (a1, v4, (0 : Int), ())).bind fun y18 => match y18 with
   | .inl z14 => (
    some ((z14.1, ()), ()))
   | .inr z16 => (
    some ((z16.1, ()), ())))
/-! ### loop.example/loom/laws.szInsS -/
def ps108 : List VS := [.val (.row Y2), .val (.int .i64)]
def rs108 : List VS := [.val (.int .i64)]
noncomputable def f108 (x : (List S2) × Int × Unit) : Option ((Int × Unit) × (Unit)) :=
 let v4 := (wr (x.2.1 - (x.1.length : Int)))
 bif (blt v4 (0 : Int)) then some (((-1 : Int), ()), ())
 else some ((v4, ()), ())
/-! ### loop.example/loom/laws.szNamed -/
def ps152 : List VS := [.val Y3, .val (.int .i64)]
def rs152 : List VS := [.val (.int .i64)]
noncomputable def f152 (x : S3 × Int × Unit) : Option ((Int × Unit) × (Unit)) :=
 let v4 := (wr (x.2.1 - (x.1.1.size : Int)))
 bif (blt v4 (0 : Int)) then some (((-1 : Int), ()), ())
 else some ((v4, ()), ())
/-! ### loop.example/loom/laws.szNamedS -/
def sh109_20 : Sh := ⟨[0, 1, 5], [.val (.row Y3), .val (.int .i64), .val (.int .i64)], []⟩
def outs109_20 : List (Ex × Sh) := [((.exit 0), ⟨[1], [.val (.int .i64)], []⟩), (.ret, ⟨[4], [.val (.int .i64)], []⟩)]
noncomputable def f109_20 (x : (List S3) × Int × Int × Unit) : Option (((List S3) × Int × Int × Unit) ⊕ ((Int × Unit) ⊕ (Int × Unit))) :=
 let a6 := x.1
 let left7 := x.2.1
 let i8 := x.2.2.1
 bif (blt i8 (a6.length : Int)) then (
  bif (inR i8 (a6.length : Int)) then (
   (f152 ((a6.getD i8.toNat ((⟨#[]⟩ : ByteArray), (0 : Int), (0 : Int), (0 : Int))), left7, ())).bind fun r11 =>
   bif (blt r11.1.1 (0 : Int)) then some (.inr (.inr ((-1 : Int), ())))
   else some (.inl (a6, r11.1.1, (wr (i8 + (1 : Int))), ())))
  else none)
 else some (.inr (.inl (left7, ())))
def ps109 : List VS := [.val (.row Y3), .val (.int .i64)]
def rs109 : List VS := [.val (.int .i64)]
noncomputable def f109 (x : (List S3) × Int × Unit) : Option ((Int × Unit) × (Unit)) :=
 let a1 := x.1
 let v4 := (wr (x.2.1 - (a1.length : Int)))
 bif (blt v4 (0 : Int)) then some (((-1 : Int), ()), ())
 else (
  (loopF f109_20 (a1, v4, (0 : Int), ())).bind fun y18 => match y18 with
   | .inl z14 => (
    some ((z14.1, ()), ()))
   | .inr z16 => (
    some ((z16.1, ()), ())))
/-! ### loop.example/loom/laws.szProto -/
def ps61 : List VS := [.val Y4, .val (.int .i64)]
def rs61 : List VS := [.val (.int .i64)]
noncomputable def f61 (x : S9 × Int × Unit) : Option ((Int × Unit) × (Unit)) :=
 let a1 := x.1
 let v4 := (wr (x.2.1 - (a1.1.size : Int)))
 bif (blt v4 (0 : Int)) then some (((-1 : Int), ()), ())
 else (
  (f106 (a1.2.2.2.2.2.1, v4, ())).bind fun r6 =>
  bif (blt r6.1.1 (0 : Int)) then some (((-1 : Int), ()), ())
  else (
   (f107 (a1.2.2.2.2.2.2.1, r6.1.1, ())).bind fun r8 =>
   bif (blt r8.1.1 (0 : Int)) then some (((-1 : Int), ()), ())
   else (
    (f108 (a1.2.2.2.2.2.2.2.1, r8.1.1, ())).bind fun r10 =>
    bif (blt r10.1.1 (0 : Int)) then some (((-1 : Int), ()), ())
    else (
     (f109 (a1.2.2.2.2.2.2.2.2, r10.1.1, ())).bind fun r12 =>
     bif (blt r12.1.1 (0 : Int)) then some (((-1 : Int), ()), ())
     else some ((r12.1.1, ()), ())))))
/-! ### loop.example/loom/laws.szProtoS -/
def sh23_20 : Sh := ⟨[0, 1, 5], [.val (.row Y4), .val (.int .i64), .val (.int .i64)], []⟩
def outs23_20 : List (Ex × Sh) := [((.exit 0), ⟨[1], [.val (.int .i64)], []⟩), (.ret, ⟨[4], [.val (.int .i64)], []⟩)]
noncomputable def f23_20 (x : (List S9) × Int × Int × Unit) : Option (((List S9) × Int × Int × Unit) ⊕ ((Int × Unit) ⊕ (Int × Unit))) :=
 let a6 := x.1
 let left7 := x.2.1
 let i8 := x.2.2.1
 bif (blt i8 (a6.length : Int)) then (
  bif (inR i8 (a6.length : Int)) then (
   (f61 ((a6.getD i8.toNat ((⟨#[]⟩ : ByteArray), (0 : Int), (0 : Int), false, (0 : Int), ([] : List S0), ([] : List S1), ([] : List S2), ([] : List S3))), left7, ())).bind fun r11 =>
   bif (blt r11.1.1 (0 : Int)) then some (.inr (.inr ((-1 : Int), ())))
   else some (.inl (a6, r11.1.1, (wr (i8 + (1 : Int))), ())))
  else none)
 else some (.inr (.inl (left7, ())))
def ps23 : List VS := [.val (.row Y4), .val (.int .i64)]
def rs23 : List VS := [.val (.int .i64)]
noncomputable def f23 (x : (List S9) × Int × Unit) : Option ((Int × Unit) × (Unit)) :=
 let a1 := x.1
 let v4 := (wr (x.2.1 - (a1.length : Int)))
 bif (blt v4 (0 : Int)) then some (((-1 : Int), ()), ())
 else (
  (loopF f23_20 (a1, v4, (0 : Int), ())).bind fun y18 => match y18 with
   | .inl z14 => (
    some ((z14.1, ()), ()))
   | .inr z16 => (
    some ((z16.1, ()), ())))
/-! ### loop.example/loom/laws.szCode -/
abbrev S25 := List S9
def ps5 : List VS := [.val Y5, .val (.int .i64)]
def rs5 : List VS := [.val (.int .i64)]
noncomputable def f5 (x : S25 × Int × Unit) : Option ((Int × Unit) × (Unit)) :=
 (f23 (x.1, x.2.1, ())).bind fun r3 =>
 bif (blt r3.1.1 (0 : Int)) then some (((-1 : Int), ()), ())
 else some ((r3.1.1, ()), ())
/-! ### loop.example/loom/spec.l3fault -/
abbrev S26 := Int × Int × Int
def ps112 : List VS := [.val (.int .i64), .val (.int .i64), .val (.int .i64)]
def rs112 : List VS := [.val Y23]
noncomputable def f112 (x : Int × Int × Int × Unit) : Option ((S26 × Unit) × (Unit)) :=
 some (((x.1, x.2.1, x.2.2.1), ()), ())
/-! ### loop.example/loom/spec.l3in -/
def ps157 : List VS := [.val (.int .i64), .val (.int .i64), .val (.int .i64)]
def rs157 : List VS := [.val .bool]
noncomputable def f157 (x : Int × Int × Int × Unit) : Option ((Bool × Unit) × (Unit)) :=
 let x1 := x.1
 some ((((ble x.2.1 x1) && (ble x1 x.2.2.1)), ()), ())
/-! ### loop.example/loom/spec.l3headOk -/
def ps153 : List VS := [.val Y5, .val (.int .i64)]
def rs153 : List VS := [.val .bool]
noncomputable def f153 (x : S25 × Int × Unit) : Option ((Bool × Unit) × (Unit)) :=
 let c1 := x.1
 let p2 := x.2.1
 bif (inR p2 (c1.length : Int)) then (
  let v3 := (c1.getD p2.toNat ((⟨#[]⟩ : ByteArray), (0 : Int), (0 : Int), false, (0 : Int), ([] : List S0), ([] : List S1), ([] : List S2), ([] : List S3))).2.2.2.2.1
  (joinB (ble ((c1.getD p2.toNat ((⟨#[]⟩ : ByteArray), (0 : Int), (0 : Int), false, (0 : Int), ([] : List S0), ([] : List S1), ([] : List S2), ([] : List S3))).1.size : Int) (40 : Int)) ((f157 ((c1.getD p2.toNat ((⟨#[]⟩ : ByteArray), (0 : Int), (0 : Int), false, (0 : Int), ([] : List S0), ([] : List S1), ([] : List S2), ([] : List S3))).2.1, (0 : Int), (100000 : Int), ())).bind fun r9 => (some r9.1.1)) (some false)).bind fun c10 =>
  (joinB c10 ((f157 ((c1.getD p2.toNat ((⟨#[]⟩ : ByteArray), (0 : Int), (0 : Int), false, (0 : Int), ([] : List S0), ([] : List S1), ([] : List S2), ([] : List S3))).2.2.2.2.1, (0 : Int), (250 : Int), ())).bind fun r11 => (some r11.1.1)) (some false)).bind fun c12 =>
  (joinB c12 ((f157 ((c1.getD p2.toNat ((⟨#[]⟩ : ByteArray), (0 : Int), (0 : Int), false, (0 : Int), ([] : List S0), ([] : List S1), ([] : List S2), ([] : List S3))).2.2.1, (0 : Int), (bif (c1.getD p2.toNat ((⟨#[]⟩ : ByteArray), (0 : Int), (0 : Int), false, (0 : Int), ([] : List S0), ([] : List S1), ([] : List S2), ([] : List S3))).2.2.2.1 then (wr (v3 - (1 : Int))) else v3), ())).bind fun r13 => (some r13.1.1)) (some false)).bind fun c14 =>
  some (((((c14 && (ble ((c1.getD p2.toNat ((⟨#[]⟩ : ByteArray), (0 : Int), (0 : Int), false, (0 : Int), ([] : List S0), ([] : List S1), ([] : List S2), ([] : List S3))).2.2.2.2.2.1.length : Int) (250 : Int))) && (ble ((c1.getD p2.toNat ((⟨#[]⟩ : ByteArray), (0 : Int), (0 : Int), false, (0 : Int), ([] : List S0), ([] : List S1), ([] : List S2), ([] : List S3))).2.2.2.2.2.2.1.length : Int) (500 : Int))) && ((blt (0 : Int) p2) || ((beq (c1.getD p2.toNat ((⟨#[]⟩ : ByteArray), (0 : Int), (0 : Int), false, (0 : Int), ([] : List S0), ([] : List S1), ([] : List S2), ([] : List S3))).2.2.1 (0 : Int)) && (beq ((c1.getD p2.toNat ((⟨#[]⟩ : ByteArray), (0 : Int), (0 : Int), false, (0 : Int), ([] : List S0), ([] : List S1), ([] : List S2), ([] : List S3))).2.2.2.2.2.1.length : Int) (0 : Int))))), ()), ()))
 else none
/-! ### loop.example/loom/spec.l1zero -/
def ps188 : List VS := [.val Y1, .val .bool, .val .bool, .val .bool, .val .bool]
def rs188 : List VS := [.val .bool]
noncomputable def f188 (x : S1 × Bool × Bool × Bool × Bool × Unit) : Option ((Bool × Unit) × (Unit)) :=
 let v1 := x.1
 some ((((((x.2.1 || (beq v1.2.1 (0 : Int))) && (x.2.2.1 || (fOrd v1.2.2.1 (0 : Nat) == some .eq))) && (x.2.2.2.1 || (beqS v1.2.2.2.1 (⟨#[]⟩ : ByteArray)))) && (x.2.2.2.2.1 || (beq v1.2.2.2.2 (0 : Int)))), ()), ())
/-! ### loop.example/loom/spec.ValueOk -/
def ps183 : List VS := [.val Y1]
def rs183 : List VS := [.val .bool]
noncomputable def f183 (x : S1 × Unit) : Option ((Bool × Unit) × (Unit)) :=
 let v1 := x.1
 bif (beq v1.1 (0 : Int)) then (
  (f188 (v1, false, false, false, false, ())).bind fun r3 =>
  some ((r3.1.1, ()), ()))
 else bif (beq v1.1 (1 : Int)) then (
  (f188 (v1, true, false, false, false, ())).bind fun r5 =>
  some (((r5.1.1 && ((beq v1.2.1 (0 : Int)) || (beq v1.2.1 (1 : Int)))), ()), ()))
 else bif (beq v1.1 (2 : Int)) then (
  (f188 (v1, true, false, false, false, ())).bind fun r8 =>
  some ((r8.1.1, ()), ()))
 else bif (beq v1.1 (3 : Int)) then (
  (f188 (v1, false, true, false, false, ())).bind fun r10 =>
  some ((r10.1.1, ()), ()))
 else bif (beq v1.1 (4 : Int)) then (
  (f188 (v1, false, false, true, false, ())).bind fun r12 =>
  some (((r12.1.1 && (ble (v1.2.2.2.1.size : Int) (4000 : Int))), ()), ()))
 else bif ((beq v1.1 (5 : Int)) || ((beq v1.1 (6 : Int)) || (beq v1.1 (7 : Int)))) then (
  (f188 (v1, false, false, false, true, ())).bind fun r16 =>
  some (((r16.1.1 && (ble (0 : Int) v1.2.2.2.2)), ()), ()))
 else bif (beq v1.1 (8 : Int)) then (
  (f188 (v1, true, false, false, false, ())).bind fun r19 =>
  some ((((r19.1.1 && (ble (0 : Int) v1.2.1)) && (blt v1.2.1 (15 : Int))), ()), ()))
 else some ((false, ()), ())
/-! ### loop.example/loom/spec.l3constOk -/
def ps154 : List VS := [.val Y1]
def rs154 : List VS := [.val .bool]
noncomputable def f154 (x : S1 × Unit) : Option ((Bool × Unit) × (Unit)) :=
 let v1 := x.1
 (f183 (v1, ())).bind fun r2 =>
 bif ((((!r2.1.1) || (beq v1.1 (5 : Int))) || (beq v1.1 (6 : Int))) || (beq v1.1 (7 : Int))) then some ((false, ()), ())
 else bif (bne v1.1 (3 : Int)) then (
  (joinB (fOrd v1.2.2.1 (0 : Nat) == some .eq) ((FloatKind.f64.format.div (4607182418800017408 : Nat) v1.2.2.1).bind fun v9 => (some (fOrd v9 (0 : Nat) == some .gt))) (some false)).bind fun c10 =>
  some ((c10, ()), ()))
 else some (((fOrd v1.2.2.1 v1.2.2.1 == some .eq), ()), ())
/-! ### loop.example/loom/spec.l3namedOk -/
def ps155 : List VS := [.val Y4, .val (.int .i64)]
def rs155 : List VS := [.val .bool]
noncomputable def f155 (x : S9 × Int × Unit) : Option ((Bool × Unit) × (Unit)) :=
 let f1 := x.1
 let i2 := x.2.1
 bif (inR i2 (f1.2.2.2.2.2.2.2.2.length : Int)) then (
  (joinB (blt i2 (500 : Int)) ((f157 (((f1.2.2.2.2.2.2.2.2.getD i2.toNat ((⟨#[]⟩ : ByteArray), (0 : Int), (0 : Int), (0 : Int))).1.size : Int), (1 : Int), (40 : Int), ())).bind fun r4 => (some r4.1.1)) (some false)).bind fun c5 =>
  (joinB c5 ((f157 ((f1.2.2.2.2.2.2.2.2.getD i2.toNat ((⟨#[]⟩ : ByteArray), (0 : Int), (0 : Int), (0 : Int))).2.1, (0 : Int), (wr (f1.2.2.2.2.1 - (1 : Int))), ())).bind fun r6 => (some r6.1.1)) (some false)).bind fun c7 =>
  some (((((c7 && (ble (0 : Int) (f1.2.2.2.2.2.2.2.2.getD i2.toNat ((⟨#[]⟩ : ByteArray), (0 : Int), (0 : Int), (0 : Int))).2.2.1)) && (ble (f1.2.2.2.2.2.2.2.2.getD i2.toNat ((⟨#[]⟩ : ByteArray), (0 : Int), (0 : Int), (0 : Int))).2.2.1 (f1.2.2.2.2.2.2.2.2.getD i2.toNat ((⟨#[]⟩ : ByteArray), (0 : Int), (0 : Int), (0 : Int))).2.2.2)) && (ble (f1.2.2.2.2.2.2.2.2.getD i2.toNat ((⟨#[]⟩ : ByteArray), (0 : Int), (0 : Int), (0 : Int))).2.2.2 (f1.2.2.2.2.2.2.2.1.length : Int))), ()), ()))
 else none
/-! ### loop.example/loom/spec.l3roles -/
def ps159 : List VS := [.val (.int .i64)]
def rs159 : List VS := [.own 3 (.int .i64)]
noncomputable def f159 (x : Int × Unit) : Option (((List Int) × Unit) × (Unit)) :=
 let op1 := x.1
 bif (beq op1 (1 : Int)) then (
  some ((([(11 : Int), (0 : Int), (0 : Int), (0 : Int)]), ()), ()))
 else bif (beq op1 (2 : Int)) then (
  some ((([(12 : Int), (0 : Int), (0 : Int), (0 : Int)]), ()), ()))
 else bif ((beq op1 (3 : Int)) || ((beq op1 (32 : Int)) || (beq op1 (36 : Int)))) then (
  some ((([(0 : Int), (0 : Int), (0 : Int), (0 : Int)]), ()), ()))
 else bif (beq op1 (4 : Int)) then (
  some ((([(1 : Int), (7 : Int), (0 : Int), (0 : Int)]), ()), ()))
 else bif ((beq op1 (5 : Int)) || (beq op1 (6 : Int))) then (
  some ((([(1 : Int), (2 : Int), (0 : Int), (0 : Int)]), ()), ()))
 else bif (beq op1 (7 : Int)) then (
  some ((([(1 : Int), (5 : Int), (0 : Int), (0 : Int)]), ()), ()))
 else bif (beq op1 (8 : Int)) then (
  some ((([(5 : Int), (2 : Int), (0 : Int), (0 : Int)]), ()), ()))
 else bif (beq op1 (9 : Int)) then (
  some ((([(1 : Int), (8 : Int), (0 : Int), (0 : Int)]), ()), ()))
 else bif (beq op1 (10 : Int)) then (
  some ((([(8 : Int), (2 : Int), (0 : Int), (0 : Int)]), ()), ()))
 else bif (beq op1 (11 : Int)) then (
  some ((([(1 : Int), (9 : Int), (0 : Int), (0 : Int)]), ()), ()))
 else bif ((beq op1 (12 : Int)) || (beq op1 (22 : Int))) then (
  some ((([(1 : Int), (0 : Int), (0 : Int), (0 : Int)]), ()), ()))
 else bif (beq op1 (13 : Int)) then (
  some ((([(4 : Int), (2 : Int), (2 : Int), (0 : Int)]), ()), ()))
 else bif (beq op1 (14 : Int)) then (
  some ((([(4 : Int), (2 : Int), (3 : Int), (0 : Int)]), ()), ()))
 else bif (beq op1 (15 : Int)) then (
  some ((([(1 : Int), (2 : Int), (2 : Int), (0 : Int)]), ()), ()))
 else bif (beq op1 (16 : Int)) then (
  some ((([(2 : Int), (2 : Int), (2 : Int), (0 : Int)]), ()), ()))
 else bif (beq op1 (17 : Int)) then (
  some ((([(1 : Int), (15 : Int), (2 : Int), (0 : Int)]), ()), ()))
 else bif (beq op1 (18 : Int)) then (
  some ((([(1 : Int), (16 : Int), (2 : Int), (2 : Int)]), ()), ()))
 else bif (beq op1 (19 : Int)) then (
  some ((([(10 : Int), (0 : Int), (0 : Int), (0 : Int)]), ()), ()))
 else bif ((beq op1 (20 : Int)) || (beq op1 (21 : Int))) then (
  some ((([(2 : Int), (10 : Int), (0 : Int), (0 : Int)]), ()), ()))
 else bif (beq op1 (23 : Int)) then (
  some ((([(6 : Int), (2 : Int), (0 : Int), (0 : Int)]), ()), ()))
 else bif (beq op1 (24 : Int)) then (
  some ((([(6 : Int), (3 : Int), (0 : Int), (0 : Int)]), ()), ()))
 else bif (beq op1 (25 : Int)) then (
  some ((([(1 : Int), (3 : Int), (0 : Int), (0 : Int)]), ()), ()))
 else bif (beq op1 (26 : Int)) then (
  some ((([(1 : Int), (6 : Int), (17 : Int), (0 : Int)]), ()), ()))
 else bif (beq op1 (27 : Int)) then (
  some ((([(1 : Int), (6 : Int), (0 : Int), (0 : Int)]), ()), ()))
 else bif (beq op1 (28 : Int)) then (
  some ((([(1 : Int), (2 : Int), (3 : Int), (0 : Int)]), ()), ()))
 else bif (beq op1 (29 : Int)) then (
  some ((([(3 : Int), (0 : Int), (0 : Int), (0 : Int)]), ()), ()))
 else bif (beq op1 (30 : Int)) then (
  some ((([(2 : Int), (0 : Int), (0 : Int), (0 : Int)]), ()), ()))
 else bif (beq op1 (31 : Int)) then (
  some ((([(10 : Int), (14 : Int), (0 : Int), (0 : Int)]), ()), ()))
 else bif ((beq op1 (33 : Int)) || (beq op1 (34 : Int))) then (
  some ((([(13 : Int), (0 : Int), (0 : Int), (0 : Int)]), ()), ()))
 else bif (beq op1 (35 : Int)) then (
  some ((([(2 : Int), (3 : Int), (0 : Int), (0 : Int)]), ()), ()))
 else bif (beq op1 (37 : Int)) then (
  some ((([(18 : Int), (0 : Int), (0 : Int), (0 : Int)]), ()), ()))
 else bif ((beq op1 (38 : Int)) || (beq op1 (39 : Int))) then (
  some ((([(18 : Int), (10 : Int), (0 : Int), (0 : Int)]), ()), ()))
 else bif (beq op1 (40 : Int)) then (
  some ((([(19 : Int), (0 : Int), (0 : Int), (0 : Int)]), ()), ()))
 else bif (beq op1 (41 : Int)) then (
  some ((([(20 : Int), (10 : Int), (1 : Int), (0 : Int)]), ()), ()))
 else bif (beq op1 (42 : Int)) then (
  some ((([(21 : Int), (0 : Int), (0 : Int), (0 : Int)]), ()), ()))
 else some ((([] : List Int), ()), ())
/-! ### loop.example/loom/spec.l3fields -/
def ps160 : List VS := [.val Y2]
def rs160 : List VS := [.own 3 (.int .i64)]
noncomputable def f160 (x : S2 × Unit) : Option (((List Int) × Unit) × (Unit)) :=
 let n1 := x.1
 some ((([n1.2.1, n1.2.2.1, n1.2.2.2.1, n1.2.2.2.2]), ()), ())
/-! ### loop.example/loom/spec.l3fits -/
def ps184 : List VS := [.val Y5, .val (.int .i64), .val (.int .i64), .val (.int .i64)]
def rs184 : List VS := [.val .bool]
noncomputable def f184 (x : S25 × Int × Int × Int × Unit) : Option ((Bool × Unit) × (Unit)) :=
 let c1 := x.1
 let p2 := x.2.1
 let role3 := x.2.2.1
 let x4 := x.2.2.2.1
 bif (inR p2 (c1.length : Int)) then (
  bif (beq role3 (0 : Int)) then some (((beq x4 (0 : Int)), ()), ())
  else bif ((beq role3 (1 : Int)) || ((beq role3 (4 : Int)) || ((beq role3 (5 : Int)) || ((beq role3 (6 : Int)) || (beq role3 (21 : Int)))))) then (
   (f157 (x4, (0 : Int), (wr ((c1.getD p2.toNat ((⟨#[]⟩ : ByteArray), (0 : Int), (0 : Int), false, (0 : Int), ([] : List S0), ([] : List S1), ([] : List S2), ([] : List S3))).2.2.2.2.1 - (1 : Int))), ())).bind fun r11 =>
   some ((r11.1.1, ()), ()))
  else bif ((beq role3 (2 : Int)) || (beq role3 (3 : Int))) then (
   (f157 (x4, (wr (0 - (c1.getD p2.toNat ((⟨#[]⟩ : ByteArray), (0 : Int), (0 : Int), false, (0 : Int), ([] : List S0), ([] : List S1), ([] : List S2), ([] : List S3))).2.2.2.2.1)), (wr ((c1.getD p2.toNat ((⟨#[]⟩ : ByteArray), (0 : Int), (0 : Int), false, (0 : Int), ([] : List S0), ([] : List S1), ([] : List S2), ([] : List S3))).2.2.2.2.1 - (1 : Int))), ())).bind fun r18 =>
   some ((r18.1.1, ()), ()))
  else bif (beq role3 (7 : Int)) then (
   (f157 (x4, (0 : Int), (wr (((c1.getD p2.toNat ((⟨#[]⟩ : ByteArray), (0 : Int), (0 : Int), false, (0 : Int), ([] : List S0), ([] : List S1), ([] : List S2), ([] : List S3))).2.2.2.2.2.2.1.length : Int) - (1 : Int))), ())).bind fun r23 =>
   some ((r23.1.1, ()), ()))
  else bif (beq role3 (8 : Int)) then (
   (f157 (x4, (0 : Int), (wr (((c1.getD p2.toNat ((⟨#[]⟩ : ByteArray), (0 : Int), (0 : Int), false, (0 : Int), ([] : List S0), ([] : List S1), ([] : List S2), ([] : List S3))).2.2.2.2.2.1.length : Int) - (1 : Int))), ())).bind fun r28 =>
   some ((r28.1.1, ()), ()))
  else bif (beq role3 (9 : Int)) then (
   (f157 (x4, (0 : Int), (wr ((c1.length : Int) - (1 : Int))), ())).bind fun r32 =>
   some ((r32.1.1, ()), ()))
  else bif (beq role3 (10 : Int)) then (
   (f157 (x4, (0 : Int), (wr (((c1.getD p2.toNat ((⟨#[]⟩ : ByteArray), (0 : Int), (0 : Int), false, (0 : Int), ([] : List S0), ([] : List S1), ([] : List S2), ([] : List S3))).2.2.2.2.2.2.2.1.length : Int) - (1 : Int))), ())).bind fun r37 =>
   some ((r37.1.1, ()), ()))
  else bif (beq role3 (11 : Int)) then (
   (f157 (x4, (1 : Int), (100000 : Int), ())).bind fun r39 =>
   some ((r39.1.1, ()), ()))
  else bif (beq role3 (12 : Int)) then (
   (f157 (x4, (0 : Int), (100000 : Int), ())).bind fun r41 =>
   some ((r41.1.1, ()), ()))
  else bif (beq role3 (13 : Int)) then (
   (f157 (x4, (0 : Int), (c1.getD p2.toNat ((⟨#[]⟩ : ByteArray), (0 : Int), (0 : Int), false, (0 : Int), ([] : List S0), ([] : List S1), ([] : List S2), ([] : List S3))).2.2.2.2.1, ())).bind fun r44 =>
   some ((r44.1.1, ()), ()))
  else bif (beq role3 (14 : Int)) then (
   (f157 (x4, (0 : Int), (wr ((c1.getD p2.toNat ((⟨#[]⟩ : ByteArray), (0 : Int), (0 : Int), false, (0 : Int), ([] : List S0), ([] : List S1), ([] : List S2), ([] : List S3))).2.2.2.2.1 - (2 : Int))), ())).bind fun r48 =>
   some ((r48.1.1, ()), ()))
  else bif (beq role3 (15 : Int)) then (
   (f157 (x4, (19 : Int), (22 : Int), ())).bind fun r50 =>
   some ((r50.1.1, ()), ()))
  else bif (beq role3 (16 : Int)) then (
   (f157 (x4, (1 : Int), (18 : Int), ())).bind fun r52 =>
   some ((r52.1.1, ()), ()))
  else bif (beq role3 (17 : Int)) then (
   (f157 (x4, (0 : Int), (250 : Int), ())).bind fun r54 =>
   some ((r54.1.1, ()), ()))
  else bif (beq role3 (18 : Int)) then (
   (f157 (x4, (0 : Int), (wr ((c1.getD p2.toNat ((⟨#[]⟩ : ByteArray), (0 : Int), (0 : Int), false, (0 : Int), ([] : List S0), ([] : List S1), ([] : List S2), ([] : List S3))).2.2.2.2.1 - (3 : Int))), ())).bind fun r58 =>
   some ((r58.1.1, ()), ()))
  else (
   (f157 (x4, (0 : Int), (wr ((c1.getD p2.toNat ((⟨#[]⟩ : ByteArray), (0 : Int), (0 : Int), false, (0 : Int), ([] : List S0), ([] : List S1), ([] : List S2), ([] : List S3))).2.2.2.2.1 - (2 : Int))), ())).bind fun r61 =>
   some ((r61.1.1, ()), ())))
 else none
/-! ### loop.example/loom/spec.l3insOk -/
def sh156_24 : Sh := ⟨[1, 2, 3, 7, 8, 28, 29, 30], [.val (.int .i64), .val (.int .i64), .box 32 [.sc Y5] 0, .box 118 [.sc Y2] 0, .own 3 (.int .i64), .own 3 (.int .i64), .val (.int .i64), .val (.int .i64)], []⟩
def outs156_24 : List (Ex × Sh) := [((.exit 0), ⟨[1, 2, 3, 7], [.val (.int .i64), .val (.int .i64), .box 32 [.sc Y5] 0, .box 118 [.sc Y2] 0], []⟩), (.ret, ⟨[6], [.val .bool], []⟩)]
noncomputable def f156_24 (x : Int × Int × (S25 × Unit) × (S2 × Unit) × (List Int) × (List Int) × Int × Int × Unit) : Option ((Int × Int × (S25 × Unit) × (S2 × Unit) × (List Int) × (List Int) × Int × Int × Unit) ⊕ ((Int × Int × (S25 × Unit) × (S2 × Unit) × Unit) ⊕ (Bool × Unit))) :=
 let p11 := x.1
 let i12 := x.2.1
 let roles13 := x.2.2.2.2.1
 let v14 := x.2.2.2.2.2.1
 let v15 := x.2.2.2.2.2.2.1
 let v16 := x.2.2.2.2.2.2.2.1
 bif (blt v16 v15) then (
  bif (inR v16 (v14.length : Int)) then (
   bif (inR v16 (roles13.length : Int)) then (
    (f184 (x.2.2.1.1, p11, (roles13.getD v16.toNat (0 : Int)), (v14.getD v16.toNat (0 : Int)), ())).bind fun r20 =>
    bif (!r20.1.1) then some (.inr (.inr (false, ())))
    else some (.inl (p11, i12, (x.2.2.1.1, ()), (x.2.2.2.1.1, ()), roles13, v14, v15, (wr (v16 + (1 : Int))), ())))
   else none)
  else none)
 else some (.inr (.inl (p11, i12, (x.2.2.1.1, ()), (x.2.2.2.1.1, ()), ())))
def ps156 : List VS := [.val Y5, .val (.int .i64), .val (.int .i64)]
def rs156 : List VS := [.val .bool]
noncomputable def f156 (x : S25 × Int × Int × Unit) : Option ((Bool × Unit) × (Unit)) :=
 let c1 := x.1
 let p2 := x.2.1
 let i3 := x.2.2.1
 bif (inR p2 (c1.length : Int)) then (
  let v4 := (c1.getD p2.toNat ((⟨#[]⟩ : ByteArray), (0 : Int), (0 : Int), false, (0 : Int), ([] : List S0), ([] : List S1), ([] : List S2), ([] : List S3))).2.2.2.2.2.2.2.1
  bif (inR i3 (v4.length : Int)) then (
   (f159 ((v4.getD i3.toNat ((0 : Int), (0 : Int), (0 : Int), (0 : Int), (0 : Int))).1, ())).bind fun r6 =>
   bif (beq (r6.1.1.length : Int) (0 : Int)) then some ((false, ()), ())
   else (
    (f160 ((v4.getD i3.toNat ((0 : Int), (0 : Int), (0 : Int), (0 : Int), (0 : Int))), ())).bind fun r9 =>
    (loopF f156_24 (p2, i3, (c1, ()), ((v4.getD i3.toNat ((0 : Int), (0 : Int), (0 : Int), (0 : Int), (0 : Int))), ()), r6.1.1, r9.1.1, (r9.1.1.length : Int), (0 : Int), ())).bind fun y36 => match y36 with
     | .inl z23 => (
      let p24 := z23.1
      bif (inR p24 (z23.2.2.1.1.length : Int)) then (
       some ((((((!(beq z23.2.1 (wr (((z23.2.2.1.1.getD p24.toNat ((⟨#[]⟩ : ByteArray), (0 : Int), (0 : Int), false, (0 : Int), ([] : List S0), ([] : List S1), ([] : List S2), ([] : List S3))).2.2.2.2.2.2.2.1.length : Int) - (1 : Int))))) || (beq z23.2.2.2.1.1.1 (19 : Int))) || (beq z23.2.2.2.1.1.1 (29 : Int))) || (beq z23.2.2.2.1.1.1 (30 : Int))), ()), ()))
      else none)
     | .inr z34 => (
      some ((z34.1, ()), ()))))
  else none)
 else none
/-! ### loop.example/loom/spec.l3parts -/
def sh110_12 : Sh := ⟨[1, 2, 3, 18, 19, 20], [.box 32 [.sc Y5] 0, .box 64 [.sc Y23] 0, .val (.int .i64), .val (.row Y4), .val (.int .i64), .val (.int .i64)], []⟩
def outs110_12 : List (Ex × Sh) := [((.exit 0), ⟨[1, 2, 3], [.box 32 [.sc Y5] 0, .box 64 [.sc Y23] 0, .val (.int .i64)], []⟩)]
noncomputable def f110_12 (x : (S25 × Unit) × (S26 × Unit) × Int × (List S9) × Int × Int × Unit) : Option (((S25 × Unit) × (S26 × Unit) × Int × (List S9) × Int × Int × Unit) ⊕ ((S25 × Unit) × (S26 × Unit) × Int × Unit)) :=
 let r3 := x.2.2.1
 let v4 := x.2.2.2.1
 let v5 := x.2.2.2.2.1
 let v6 := x.2.2.2.2.2.1
 bif (blt v6 v5) then (
  bif (inR v6 (v4.length : Int)) then (
   some (.inl ((x.1.1, ()), (x.2.1.1, ()), (wr (r3 + ((v4.getD v6.toNat ((⟨#[]⟩ : ByteArray), (0 : Int), (0 : Int), false, (0 : Int), ([] : List S0), ([] : List S1), ([] : List S2), ([] : List S3))).2.2.2.2.2.2.2.1.length : Int))), v4, v5, (wr (v6 + (1 : Int))), ())))
  else none)
 else some (.inr ((x.1.1, ()), (x.2.1.1, ()), r3, ()))
def sh110_40 : Sh := ⟨[1, 2, 47, 48], [.box 32 [.sc Y5] 0, .box 64 [.sc Y23] 0, .val (.int .i64), .val (.int .i64)], []⟩
def outs110_40 : List (Ex × Sh) := [((.exit 2), ⟨[1, 2], [.box 32 [.sc Y5] 0, .box 64 [.sc Y23] 0], []⟩), (.ret, ⟨[2], [.box 64 [.sc Y23] 0], []⟩)]
noncomputable def f110_40 (x : (S25 × Unit) × (S26 × Unit) × Int × Int × Unit) : Option (((S25 × Unit) × (S26 × Unit) × Int × Int × Unit) ⊕ (((S25 × Unit) × (S26 × Unit) × Unit) ⊕ ((S26 × Unit) × Unit))) :=
 let v20 := x.2.2.1
 let v21 := x.2.2.2.1
 bif (blt v21 v20) then (
  (f153 (x.1.1, v21, ())).bind fun r23 =>
  bif (!r23.1.1) then (
   (f112 ((2 : Int), v21, (0 : Int), ())).bind fun r25 =>
   some (.inr (.inr ((r25.1.1, ()), ()))))
  else some (.inl ((x.1.1, ()), (x.2.1.1, ()), v20, (wr (v21 + (1 : Int))), ())))
 else some (.inr (.inl ((x.1.1, ()), (x.2.1.1, ()), ())))
def sh110_76 : Sh := ⟨[1, 2, 7, 59, 60, 61, 67, 68, 69], [.box 32 [.sc Y5] 0, .box 64 [.sc Y23] 0, .val (.int .i64), .val (.row Y4), .val (.int .i64), .val (.int .i64), .val (.row Y1), .val (.int .i64), .val (.int .i64)], []⟩
def outs110_76 : List (Ex × Sh) := [((.exit 6), ⟨[1, 2, 59, 60, 61], [.box 32 [.sc Y5] 0, .box 64 [.sc Y23] 0, .val (.row Y4), .val (.int .i64), .val (.int .i64)], []⟩), (.ret, ⟨[2], [.box 64 [.sc Y23] 0], []⟩)]
noncomputable def f110_76 (x : (S25 × Unit) × (S26 × Unit) × Int × (List S9) × Int × Int × (List S1) × Int × Int × Unit) : Option (((S25 × Unit) × (S26 × Unit) × Int × (List S9) × Int × Int × (List S1) × Int × Int × Unit) ⊕ (((S25 × Unit) × (S26 × Unit) × (List S9) × Int × Int × Unit) ⊕ ((S26 × Unit) × Unit))) :=
 let v35 := x.2.2.1
 let v36 := x.2.2.2.1
 let v37 := x.2.2.2.2.1
 let v38 := x.2.2.2.2.2.1
 let v39 := x.2.2.2.2.2.2.1
 let v40 := x.2.2.2.2.2.2.2.1
 let v41 := x.2.2.2.2.2.2.2.2.1
 bif (blt v41 v40) then (
  bif (inR v41 (v39.length : Int)) then (
   (f154 ((v39.getD v41.toNat ((0 : Int), (0 : Int), (0 : Nat), (⟨#[]⟩ : ByteArray), (0 : Int))), ())).bind fun r43 =>
   bif (!r43.1.1) then (
    (f112 ((3 : Int), v35, v41, ())).bind fun r45 =>
    some (.inr (.inr ((r45.1.1, ()), ()))))
   else some (.inl ((x.1.1, ()), (x.2.1.1, ()), v35, v36, v37, v38, v39, v40, (wr (v41 + (1 : Int))), ())))
  else none)
 else some (.inr (.inl ((x.1.1, ()), (x.2.1.1, ()), v36, v37, v38, ())))
def sh110_64 : Sh := ⟨[1, 2, 59, 60, 61], [.box 32 [.sc Y5] 0, .box 64 [.sc Y23] 0, .val (.row Y4), .val (.int .i64), .val (.int .i64)], []⟩
def outs110_64 : List (Ex × Sh) := [((.exit 4), ⟨[1, 2], [.box 32 [.sc Y5] 0, .box 64 [.sc Y23] 0], []⟩), (.ret, ⟨[2], [.box 64 [.sc Y23] 0], []⟩)]
noncomputable def f110_64 (x : (S25 × Unit) × (S26 × Unit) × (List S9) × Int × Int × Unit) : Option (((S25 × Unit) × (S26 × Unit) × (List S9) × Int × Int × Unit) ⊕ (((S25 × Unit) × (S26 × Unit) × Unit) ⊕ ((S26 × Unit) × Unit))) :=
 let v29 := x.2.2.1
 let v30 := x.2.2.2.1
 let v31 := x.2.2.2.2.1
 bif (blt v31 v30) then (
  bif (inR v31 (v29.length : Int)) then (
   let v33 := (v29.getD v31.toNat ((⟨#[]⟩ : ByteArray), (0 : Int), (0 : Int), false, (0 : Int), ([] : List S0), ([] : List S1), ([] : List S2), ([] : List S3))).2.2.2.2.2.2.1
   (loopF f110_76 ((x.1.1, ()), (x.2.1.1, ()), v31, v29, v30, v31, v33, (v33.length : Int), (0 : Int), ())).bind fun y53 => match y53 with
    | .inl z47 => (
     some (.inl ((z47.1.1, ()), (z47.2.1.1, ()), z47.2.2.1, z47.2.2.2.1, (wr (z47.2.2.2.2.1 + (1 : Int))), ())))
    | .inr z52 => (
     some (.inr (.inr ((z52.1.1, ()), ())))))
  else none)
 else some (.inr (.inl ((x.1.1, ()), (x.2.1.1, ()), ())))
def sh110_116 : Sh := ⟨[1, 2, 11, 12, 83, 84, 85, 92, 93], [.box 32 [.sc Y5] 0, .box 64 [.sc Y23] 0, .val (.int .i64), .box 71 [.sc Y4] 0, .val (.row Y4), .val (.int .i64), .val (.int .i64), .val (.int .i64), .val (.int .i64)], []⟩
def outs110_116 : List (Ex × Sh) := [((.exit 10), ⟨[1, 2, 83, 84, 85], [.box 32 [.sc Y5] 0, .box 64 [.sc Y23] 0, .val (.row Y4), .val (.int .i64), .val (.int .i64)], []⟩), (.ret, ⟨[2], [.box 64 [.sc Y23] 0], []⟩)]
noncomputable def f110_116 (x : (S25 × Unit) × (S26 × Unit) × Int × (S9 × Unit) × (List S9) × Int × Int × Int × Int × Unit) : Option (((S25 × Unit) × (S26 × Unit) × Int × (S9 × Unit) × (List S9) × Int × Int × Int × Int × Unit) ⊕ (((S25 × Unit) × (S26 × Unit) × (List S9) × Int × Int × Unit) ⊕ ((S26 × Unit) × Unit))) :=
 let v62 := x.2.2.1
 let v63 := x.2.2.2.2.1
 let v64 := x.2.2.2.2.2.1
 let v65 := x.2.2.2.2.2.2.1
 let v66 := x.2.2.2.2.2.2.2.1
 let v67 := x.2.2.2.2.2.2.2.2.1
 bif (blt v67 v66) then (
  (f155 (x.2.2.2.1.1, v67, ())).bind fun r69 =>
  bif (!r69.1.1) then (
   (f112 ((4 : Int), v62, v67, ())).bind fun r71 =>
   some (.inr (.inr ((r71.1.1, ()), ()))))
  else some (.inl ((x.1.1, ()), (x.2.1.1, ()), v62, (x.2.2.2.1.1, ()), v63, v64, v65, v66, (wr (v67 + (1 : Int))), ())))
 else some (.inr (.inl ((x.1.1, ()), (x.2.1.1, ()), v63, v64, v65, ())))
def sh110_104 : Sh := ⟨[1, 2, 83, 84, 85], [.box 32 [.sc Y5] 0, .box 64 [.sc Y23] 0, .val (.row Y4), .val (.int .i64), .val (.int .i64)], []⟩
def outs110_104 : List (Ex × Sh) := [((.exit 8), ⟨[1, 2], [.box 32 [.sc Y5] 0, .box 64 [.sc Y23] 0], []⟩), (.ret, ⟨[2], [.box 64 [.sc Y23] 0], []⟩)]
noncomputable def f110_104 (x : (S25 × Unit) × (S26 × Unit) × (List S9) × Int × Int × Unit) : Option (((S25 × Unit) × (S26 × Unit) × (List S9) × Int × Int × Unit) ⊕ (((S25 × Unit) × (S26 × Unit) × Unit) ⊕ ((S26 × Unit) × Unit))) :=
 let v56 := x.2.2.1
 let v57 := x.2.2.2.1
 let v58 := x.2.2.2.2.1
 bif (blt v58 v57) then (
  bif (inR v58 (v56.length : Int)) then (
   (loopF f110_116 ((x.1.1, ()), (x.2.1.1, ()), v58, ((v56.getD v58.toNat ((⟨#[]⟩ : ByteArray), (0 : Int), (0 : Int), false, (0 : Int), ([] : List S0), ([] : List S1), ([] : List S2), ([] : List S3))), ()), v56, v57, v58, ((v56.getD v58.toNat ((⟨#[]⟩ : ByteArray), (0 : Int), (0 : Int), false, (0 : Int), ([] : List S0), ([] : List S1), ([] : List S2), ([] : List S3))).2.2.2.2.2.2.2.2.length : Int), (0 : Int), ())).bind fun y79 => match y79 with
    | .inl z73 => (
     some (.inl ((z73.1.1, ()), (z73.2.1.1, ()), z73.2.2.1, z73.2.2.2.1, (wr (z73.2.2.2.2.1 + (1 : Int))), ())))
    | .inr z78 => (
     some (.inr (.inr ((z78.1.1, ()), ())))))
  else none)
 else some (.inr (.inl ((x.1.1, ()), (x.2.1.1, ()), ())))
def sh110_164 : Sh := ⟨[1, 2, 14, 106, 107, 108, 121, 122], [.box 32 [.sc Y5] 0, .box 64 [.sc Y23] 0, .val (.int .i64), .val (.row Y4), .val (.int .i64), .val (.int .i64), .val (.int .i64), .val (.int .i64)], []⟩
def outs110_164 : List (Ex × Sh) := [((.exit 14), ⟨[1, 2, 106, 107, 108], [.box 32 [.sc Y5] 0, .box 64 [.sc Y23] 0, .val (.row Y4), .val (.int .i64), .val (.int .i64)], []⟩), (.ret, ⟨[2], [.box 64 [.sc Y23] 0], []⟩)]
noncomputable def f110_164 (x : (S25 × Unit) × (S26 × Unit) × Int × (List S9) × Int × Int × Int × Int × Unit) : Option (((S25 × Unit) × (S26 × Unit) × Int × (List S9) × Int × Int × Int × Int × Unit) ⊕ (((S25 × Unit) × (S26 × Unit) × (List S9) × Int × Int × Unit) ⊕ ((S26 × Unit) × Unit))) :=
 let v92 := x.2.2.1
 let v93 := x.2.2.2.1
 let v94 := x.2.2.2.2.1
 let v95 := x.2.2.2.2.2.1
 let v96 := x.2.2.2.2.2.2.1
 let v97 := x.2.2.2.2.2.2.2.1
 bif (blt v97 v96) then (
  (f156 (x.1.1, v92, v97, ())).bind fun r99 =>
  bif (!r99.1.1) then (
   (f112 ((5 : Int), v92, v97, ())).bind fun r101 =>
   some (.inr (.inr ((r101.1.1, ()), ()))))
  else some (.inl ((x.1.1, ()), (x.2.1.1, ()), v92, v93, v94, v95, v96, (wr (v97 + (1 : Int))), ())))
 else some (.inr (.inl ((x.1.1, ()), (x.2.1.1, ()), v93, v94, v95, ())))
def sh110_144 : Sh := ⟨[1, 2, 106, 107, 108], [.box 32 [.sc Y5] 0, .box 64 [.sc Y23] 0, .val (.row Y4), .val (.int .i64), .val (.int .i64)], []⟩
def outs110_144 : List (Ex × Sh) := [((.exit 12), ⟨[2], [.box 64 [.sc Y23] 0], []⟩), (.ret, ⟨[2], [.box 64 [.sc Y23] 0], []⟩)]
noncomputable def f110_144 (x : (S25 × Unit) × (S26 × Unit) × (List S9) × Int × Int × Unit) : Option (((S25 × Unit) × (S26 × Unit) × (List S9) × Int × Int × Unit) ⊕ (((S26 × Unit) × Unit) ⊕ ((S26 × Unit) × Unit))) :=
 let v82 := x.2.2.1
 let v83 := x.2.2.2.1
 let v84 := x.2.2.2.2.1
 bif (blt v84 v83) then (
  bif (inR v84 (v82.length : Int)) then (
   bif (beq ((v82.getD v84.toNat ((⟨#[]⟩ : ByteArray), (0 : Int), (0 : Int), false, (0 : Int), ([] : List S0), ([] : List S1), ([] : List S2), ([] : List S3))).2.2.2.2.2.2.2.1.length : Int) (0 : Int)) then (
    (f112 ((5 : Int), v84, (0 : Int), ())).bind fun r89 =>
    some (.inr (.inr ((r89.1.1, ()), ()))))
   else (
    (loopF f110_164 ((x.1.1, ()), (x.2.1.1, ()), v84, v82, v83, v84, ((v82.getD v84.toNat ((⟨#[]⟩ : ByteArray), (0 : Int), (0 : Int), false, (0 : Int), ([] : List S0), ([] : List S1), ([] : List S2), ([] : List S3))).2.2.2.2.2.2.2.1.length : Int), (0 : Int), ())).bind fun y109 => match y109 with
     | .inl z103 => (
      some (.inl ((z103.1.1, ()), (z103.2.1.1, ()), z103.2.2.1, z103.2.2.2.1, (wr (z103.2.2.2.2.1 + (1 : Int))), ())))
     | .inr z108 => (
      some (.inr (.inr ((z108.1.1, ()), ()))))))
  else none)
 else some (.inr (.inl ((x.2.1.1, ()), ())))
def ps110 : List VS := [.val Y5]
def rs110 : List VS := [.val Y23]
noncomputable def f110 (x : S25 × Unit) : Option ((S26 × Unit) × (Unit)) :=
 let t1 := x.1
 (loopF f110_12 ((t1, ()), (((0 : Int), (0 : Int), (0 : Int)), ()), (0 : Int), t1, (t1.length : Int), (0 : Int), ())).bind fun z12 =>
 bif (((beq (z12.1.1.length : Int) (0 : Int)) || (blt (200 : Int) (z12.1.1.length : Int))) || (blt (6000 : Int) z12.2.2.1)) then (
  (f112 ((1 : Int), (0 : Int), (0 : Int), ())).bind fun r18 =>
  some ((r18.1.1, ()), ()))
 else (
  (loopF f110_40 ((z12.1.1, ()), (z12.2.1.1, ()), (z12.1.1.length : Int), (0 : Int), ())).bind fun y118 => match y118 with
   | .inl z27 => (
    (loopF f110_64 ((z27.1.1, ()), (z27.2.1.1, ()), z27.1.1, (z27.1.1.length : Int), (0 : Int), ())).bind fun y116 => match y116 with
     | .inl z54 => (
      (loopF f110_104 ((z54.1.1, ()), (z54.2.1.1, ()), z54.1.1, (z54.1.1.length : Int), (0 : Int), ())).bind fun y114 => match y114 with
       | .inl z80 => (
        (loopF f110_144 ((z80.1.1, ()), (z80.2.1.1, ()), z80.1.1, (z80.1.1.length : Int), (0 : Int), ())).bind fun y112 => match y112 with
         | .inl _ => (
          some ((((0 : Int), (0 : Int), (0 : Int)), ()), ()))
         | .inr z111 => (
          some ((z111.1.1, ()), ())))
       | .inr z113 => (
        some ((z113.1.1, ()), ())))
     | .inr z115 => (
      some ((z115.1.1, ()), ())))
   | .inr z117 => (
    some ((z117.1.1, ()), ())))
/-! ### loop.example/loom/spec.l3upsOk -/
def sh111_8 : Sh := ⟨[1, 3, 14, 15, 16], [.val (.int .i64), .box 32 [.sc Y5] 0, .val (.row Y0), .val (.int .i64), .val (.int .i64)], []⟩
def outs111_8 : List (Ex × Sh) := [((.exit 0), ⟨[], [], []⟩), (.ret, ⟨[6], [.val .bool], []⟩)]
noncomputable def f111_8 (x : Int × (S25 × Unit) × (List S0) × Int × Int × Unit) : Option ((Int × (S25 × Unit) × (List S0) × Int × Int × Unit) ⊕ ((Unit) ⊕ (Bool × Unit))) :=
 let p6 := x.1
 let v7 := x.2.2.1
 let v8 := x.2.2.2.1
 let v9 := x.2.2.2.2.1
 bif (blt v9 v8) then (
  bif (inR v9 (v7.length : Int)) then (
   bif (v7.getD v9.toNat (false, (0 : Int))).1 then (
    bif (inR p6 (x.2.1.1.length : Int)) then (
     (f157 ((v7.getD v9.toNat (false, (0 : Int))).2, (0 : Int), (wr ((x.2.1.1.getD p6.toNat ((⟨#[]⟩ : ByteArray), (0 : Int), (0 : Int), false, (0 : Int), ([] : List S0), ([] : List S1), ([] : List S2), ([] : List S3))).2.2.2.2.1 - (1 : Int))), ())).bind fun r15 =>
     bif (!r15.1.1) then some (.inr (.inr (false, ())))
     else bif (!(v7.getD v9.toNat (false, (0 : Int))).1) then (
      bif (inR p6 (x.2.1.1.length : Int)) then (
       (f157 ((v7.getD v9.toNat (false, (0 : Int))).2, (0 : Int), (wr (((x.2.1.1.getD p6.toNat ((⟨#[]⟩ : ByteArray), (0 : Int), (0 : Int), false, (0 : Int), ([] : List S0), ([] : List S1), ([] : List S2), ([] : List S3))).2.2.2.2.2.1.length : Int) - (1 : Int))), ())).bind fun r23 =>
       bif (!r23.1.1) then some (.inr (.inr (false, ())))
       else some (.inl (p6, (x.2.1.1, ()), v7, v8, (wr (v9 + (1 : Int))), ())))
      else none)
     else some (.inl (p6, (x.2.1.1, ()), v7, v8, (wr (v9 + (1 : Int))), ())))
    else none)
   else bif (!(v7.getD v9.toNat (false, (0 : Int))).1) then (
    bif (inR p6 (x.2.1.1.length : Int)) then (
     (f157 ((v7.getD v9.toNat (false, (0 : Int))).2, (0 : Int), (wr (((x.2.1.1.getD p6.toNat ((⟨#[]⟩ : ByteArray), (0 : Int), (0 : Int), false, (0 : Int), ([] : List S0), ([] : List S1), ([] : List S2), ([] : List S3))).2.2.2.2.2.1.length : Int) - (1 : Int))), ())).bind fun r33 =>
     bif (!r33.1.1) then some (.inr (.inr (false, ())))
     else some (.inl (p6, (x.2.1.1, ()), v7, v8, (wr (v9 + (1 : Int))), ())))
    else none)
   else some (.inl (p6, (x.2.1.1, ()), v7, v8, (wr (v9 + (1 : Int))), ())))
  else none)
 else some (.inr (.inl ()))
def ps111 : List VS := [.val Y5, .val (.int .i64), .val (.int .i64)]
def rs111 : List VS := [.val .bool]
noncomputable def f111 (x : S25 × Int × Int × Unit) : Option ((Bool × Unit) × (Unit)) :=
 let c1 := x.1
 let g3 := x.2.2.1
 bif (inR g3 (c1.length : Int)) then (
  let v4 := (c1.getD g3.toNat ((⟨#[]⟩ : ByteArray), (0 : Int), (0 : Int), false, (0 : Int), ([] : List S0), ([] : List S1), ([] : List S2), ([] : List S3))).2.2.2.2.2.1
  (loopF f111_8 (x.2.1, (c1, ()), v4, (v4.length : Int), (0 : Int), ())).bind fun y40 => match y40 with
   | .inl _ => (
    some ((true, ()), ()))
   | .inr z38 => (
    some ((z38.1, ()), ())))
 else none
/-! ### loop.example/loom/spec.CheckShape -/
def sh62_36 : Sh := ⟨[1, 2, 4, 5, 21, 22, 23, 29, 30, 31], [.box 32 [.sc Y5] 0, .box 64 [.sc Y23] 0, .own 4 .bool, .val (.int .i64), .val (.row Y4), .val (.int .i64), .val (.int .i64), .val (.row Y2), .val (.int .i64), .val (.int .i64)], []⟩
def outs62_36 : List (Ex × Sh) := [((.exit 2), ⟨[1, 2, 4, 21, 22, 23], [.box 32 [.sc Y5] 0, .box 64 [.sc Y23] 0, .own 4 .bool, .val (.row Y4), .val (.int .i64), .val (.int .i64)], []⟩), (.ret, ⟨[2], [.box 64 [.sc Y23] 0], []⟩)]
noncomputable def f62_36 (x : (S25 × Unit) × (S26 × Unit) × (List Bool) × Int × (List S9) × Int × Int × (List S2) × Int × Int × Unit) : Option (((S25 × Unit) × (S26 × Unit) × (List Bool) × Int × (List S9) × Int × Int × (List S2) × Int × Int × Unit) ⊕ (((S25 × Unit) × (S26 × Unit) × (List Bool) × (List S9) × Int × Int × Unit) ⊕ ((S26 × Unit) × Unit))) :=
 let made14 := x.2.2.1
 let p15 := x.2.2.2.1
 let v16 := x.2.2.2.2.1
 let v17 := x.2.2.2.2.2.1
 let v18 := x.2.2.2.2.2.2.1
 let v19 := x.2.2.2.2.2.2.2.1
 let v20 := x.2.2.2.2.2.2.2.2.1
 let v21 := x.2.2.2.2.2.2.2.2.2.1
 bif (blt v21 v20) then (
  bif (inR v21 (v19.length : Int)) then (
   bif (bne (v19.getD v21.toNat ((0 : Int), (0 : Int), (0 : Int), (0 : Int), (0 : Int))).1 (11 : Int)) then (
    some (.inl ((x.1.1, ()), (x.2.1.1, ()), made14, p15, v16, v17, v18, v19, v20, (wr (v21 + (1 : Int))), ())))
   else (
    (joinB (ble (v19.getD v21.toNat ((0 : Int), (0 : Int), (0 : Int), (0 : Int), (0 : Int))).2.2.1 p15) (some true) (bif (inR (v19.getD v21.toNat ((0 : Int), (0 : Int), (0 : Int), (0 : Int), (0 : Int))).2.2.1 (made14.length : Int)) then (some (made14.getD (v19.getD v21.toNat ((0 : Int), (0 : Int), (0 : Int), (0 : Int), (0 : Int))).2.2.1.toNat false)) else none)).bind fun c28 =>
    (joinB c28 (some true) ((f111 (x.1.1, p15, (v19.getD v21.toNat ((0 : Int), (0 : Int), (0 : Int), (0 : Int), (0 : Int))).2.2.1, ())).bind fun r29 => (some (!r29.1.1)))).bind fun c30 =>
    bif c30 then (
     (f112 ((6 : Int), p15, v21, ())).bind fun r31 =>
     some (.inr (.inr ((r31.1.1, ()), ()))))
    else (
     let v32 := (v19.getD v21.toNat ((0 : Int), (0 : Int), (0 : Int), (0 : Int), (0 : Int))).2.2.1
     bif (inR v32 (made14.length : Int)) then (
      some (.inl ((x.1.1, ()), (x.2.1.1, ()), (made14.set v32.toNat true), p15, v16, v17, v18, v19, v20, (wr (v21 + (1 : Int))), ())))
     else none)))
  else none)
 else some (.inr (.inl ((x.1.1, ()), (x.2.1.1, ()), made14, v16, v17, v18, ())))
def sh62_24 : Sh := ⟨[1, 2, 4, 21, 22, 23], [.box 32 [.sc Y5] 0, .box 64 [.sc Y23] 0, .own 4 .bool, .val (.row Y4), .val (.int .i64), .val (.int .i64)], []⟩
def outs62_24 : List (Ex × Sh) := [((.exit 0), ⟨[1, 2, 4], [.box 32 [.sc Y5] 0, .box 64 [.sc Y23] 0, .own 4 .bool], []⟩), (.ret, ⟨[2], [.box 64 [.sc Y23] 0], []⟩)]
noncomputable def f62_24 (x : (S25 × Unit) × (S26 × Unit) × (List Bool) × (List S9) × Int × Int × Unit) : Option (((S25 × Unit) × (S26 × Unit) × (List Bool) × (List S9) × Int × Int × Unit) ⊕ (((S25 × Unit) × (S26 × Unit) × (List Bool) × Unit) ⊕ ((S26 × Unit) × Unit))) :=
 let made7 := x.2.2.1
 let v8 := x.2.2.2.1
 let v9 := x.2.2.2.2.1
 let v10 := x.2.2.2.2.2.1
 bif (blt v10 v9) then (
  bif (inR v10 (v8.length : Int)) then (
   let v12 := (v8.getD v10.toNat ((⟨#[]⟩ : ByteArray), (0 : Int), (0 : Int), false, (0 : Int), ([] : List S0), ([] : List S1), ([] : List S2), ([] : List S3))).2.2.2.2.2.2.2.1
   (loopF f62_36 ((x.1.1, ()), (x.2.1.1, ()), made7, v10, v8, v9, v10, v12, (v12.length : Int), (0 : Int), ())).bind fun y42 => match y42 with
    | .inl z35 => (
     some (.inl ((z35.1.1, ()), (z35.2.1.1, ()), z35.2.2.1, z35.2.2.2.1, z35.2.2.2.2.1, (wr (z35.2.2.2.2.2.1 + (1 : Int))), ())))
    | .inr z41 => (
     some (.inr (.inr ((z41.1.1, ()), ())))))
  else none)
 else some (.inr (.inl ((x.1.1, ()), (x.2.1.1, ()), made7, ())))
def sh62_72 : Sh := ⟨[1, 2, 4, 9], [.box 32 [.sc Y5] 0, .box 64 [.sc Y23] 0, .own 4 .bool, .val (.int .i64)], []⟩
def outs62_72 : List (Ex × Sh) := [((.exit 4), ⟨[2], [.box 64 [.sc Y23] 0], []⟩), (.ret, ⟨[2], [.box 64 [.sc Y23] 0], []⟩)]
noncomputable def f62_72 (x : (S25 × Unit) × (S26 × Unit) × (List Bool) × Int × Unit) : Option (((S25 × Unit) × (S26 × Unit) × (List Bool) × Int × Unit) ⊕ (((S26 × Unit) × Unit) ⊕ ((S26 × Unit) × Unit))) :=
 let made45 := x.2.2.1
 let p46 := x.2.2.2.1
 bif (blt p46 (x.1.1.length : Int)) then (
  bif (inR p46 (made45.length : Int)) then (
   bif (!(made45.getD p46.toNat false)) then (
    (f112 ((7 : Int), p46, (0 : Int), ())).bind fun r51 =>
    some (.inr (.inr ((r51.1.1, ()), ()))))
   else some (.inl ((x.1.1, ()), (x.2.1.1, ()), made45, (wr (p46 + (1 : Int))), ())))
  else none)
 else some (.inr (.inl ((x.2.1.1, ()), ())))
def ps62 : List VS := [.val Y5]
def rs62 : List VS := [.val Y23]
noncomputable def f62 (x : S25 × Unit) : Option ((S26 × Unit) × (Unit)) :=
 let c1 := x.1
 (f110 (c1, ())).bind fun r2 =>
 bif (bne r2.1.1.1 (0 : Int)) then some ((r2.1.1, ()), ())
 else (
  let v4 := (c1.length : Int)
  bif (inE v4 ((281474976710656 : Nat) : Int)) then (
   (loopF f62_24 ((c1, ()), (((0 : Int), (0 : Int), (0 : Int)), ()), (List.replicate v4.toNat false), c1, (c1.length : Int), (0 : Int), ())).bind fun y57 => match y57 with
    | .inl z43 => (
     (loopF f62_72 ((z43.1.1, ()), (z43.2.1.1, ()), z43.2.2.1, (1 : Int), ())).bind fun y55 => match y55 with
      | .inl _ => (
       some ((((0 : Int), (0 : Int), (0 : Int)), ()), ()))
      | .inr z54 => (
       some ((z54.1.1, ()), ())))
    | .inr z56 => (
     some ((z56.1.1, ()), ())))
  else none)
/-! ### loop.example/loom/spec.l3silent -/
def ps158 : List VS := [.val Y4, .val (.int .i64)]
def rs158 : List VS := [.own 3 (.int .i64)]
noncomputable def f158 (x : S9 × Int × Unit) : Option (((List Int) × Unit) × (Unit)) :=
 let f1 := x.1
 let at2 := x.2.1
 bif (inR at2 (f1.2.2.2.2.2.2.2.1.length : Int)) then (
  let v3 := (f1.2.2.2.2.2.2.2.1.getD at2.toNat ((0 : Int), (0 : Int), (0 : Int), (0 : Int), (0 : Int))).1
  bif ((beq v3 (1 : Int)) || ((beq v3 (3 : Int)) || ((beq v3 (28 : Int)) || ((beq v3 (29 : Int)) || (beq v3 (30 : Int)))))) then some ((([] : List Int), ()), ())
  else bif (beq v3 (18 : Int)) then (
   bif (beq (f1.2.2.2.2.2.2.2.1.getD at2.toNat ((0 : Int), (0 : Int), (0 : Int), (0 : Int), (0 : Int))).2.2.1 (12 : Int)) then some ((([] : List Int), ()), ())
   else (
    let v9 := (wr (at2 + (1 : Int)))
    bif (nle (([] : List Int).length + ([v9]).length) 17592186044416) then some (((([] : List Int) ++ ([v9])), ()), ())
    else none))
  else bif (beq v3 (19 : Int)) then (
   let v13 := (f1.2.2.2.2.2.2.2.1.getD at2.toNat ((0 : Int), (0 : Int), (0 : Int), (0 : Int), (0 : Int))).2.1
   bif (nle (([] : List Int).length + ([v13]).length) 17592186044416) then some (((([] : List Int) ++ ([v13])), ()), ())
   else none)
  else bif (beq v3 (41 : Int)) then (
   let v17 := (f1.2.2.2.2.2.2.2.1.getD at2.toNat ((0 : Int), (0 : Int), (0 : Int), (0 : Int), (0 : Int))).2.2.1
   bif (nle (([] : List Int).length + ([v17]).length) 17592186044416) then some (((([] : List Int) ++ ([v17])), ()), ())
   else none)
  else bif ((beq v3 (20 : Int)) || ((beq v3 (21 : Int)) || ((beq v3 (38 : Int)) || (beq v3 (39 : Int))))) then (
   let v22 := (f1.2.2.2.2.2.2.2.1.getD at2.toNat ((0 : Int), (0 : Int), (0 : Int), (0 : Int), (0 : Int))).2.2.1
   bif (nle (([] : List Int).length + ([v22]).length) 17592186044416) then (
    let row24 := (([] : List Int) ++ ([v22]))
    let v25 := (wr (at2 + (1 : Int)))
    bif (nle (row24.length + ([v25]).length) 17592186044416) then some (((row24 ++ ([v25])), ()), ())
    else none)
   else none)
  else bif (beq v3 (31 : Int)) then (
   let v29 := (f1.2.2.2.2.2.2.2.1.getD at2.toNat ((0 : Int), (0 : Int), (0 : Int), (0 : Int), (0 : Int))).2.1
   bif (nle (([] : List Int).length + ([v29]).length) 17592186044416) then (
    let row31 := (([] : List Int) ++ ([v29]))
    let v32 := (wr (at2 + (1 : Int)))
    bif (nle (row31.length + ([v32]).length) 17592186044416) then some (((row31 ++ ([v32])), ()), ())
    else none)
   else none)
  else (
   let v35 := (wr (at2 + (1 : Int)))
   bif (nle (([] : List Int).length + ([v35]).length) 17592186044416) then some (((([] : List Int) ++ ([v35])), ()), ())
   else none))
 else none
/-! ### loop.example/loom/spec.l3round -/
def sh113_48 : Sh := ⟨[1, 2, 5, 6, 7, 41, 42, 43], [.val (.int .i64), .box 71 [.sc Y4] 0, .own 4 .bool, .own 3 (.int .i64), .val (.int .i64), .own 3 (.int .i64), .val (.int .i64), .val (.int .i64)], []⟩
def outs113_48 : List (Ex × Sh) := [((.exit 2), ⟨[1, 2, 5, 6, 7], [.val (.int .i64), .box 71 [.sc Y4] 0, .own 4 .bool, .own 3 (.int .i64), .val (.int .i64)], []⟩)]
noncomputable def f113_48 (x : Int × (S9 × Unit) × (List Bool) × (List Int) × Int × (List Int) × Int × Int × Unit) : Option ((Int × (S9 × Unit) × (List Bool) × (List Int) × Int × (List Int) × Int × Int × Unit) ⊕ (Int × (S9 × Unit) × (List Bool) × (List Int) × Int × Unit)) :=
 let at19 := x.1
 let seen20 := x.2.2.1
 let list21 := x.2.2.2.1
 let i22 := x.2.2.2.2.1
 let v23 := x.2.2.2.2.2.1
 let v24 := x.2.2.2.2.2.2.1
 let v25 := x.2.2.2.2.2.2.2.1
 bif (blt v25 v24) then (
  bif (inR v25 (v23.length : Int)) then (
   let v27 := (v23.getD v25.toNat (0 : Int))
   bif (nle (list21.length + ([v27]).length) 17592186044416) then (
    some (.inl (at19, (x.2.1.1, ()), seen20, (list21 ++ ([v27])), i22, v23, v24, (wr (v25 + (1 : Int))), ())))
   else none)
  else none)
 else some (.inr (at19, (x.2.1.1, ()), seen20, list21, i22, ()))
def sh113_16 : Sh := ⟨[1, 2, 5, 6, 7], [.val (.int .i64), .box 71 [.sc Y4] 0, .own 4 .bool, .own 3 (.int .i64), .val (.int .i64)], []⟩
def outs113_16 : List (Ex × Sh) := [((.exit 0), ⟨[], [], []⟩), (.ret, ⟨[4], [.val .bool], []⟩)]
noncomputable def f113_16 (x : Int × (S9 × Unit) × (List Bool) × (List Int) × Int × Unit) : Option ((Int × (S9 × Unit) × (List Bool) × (List Int) × Int × Unit) ⊕ ((Unit) ⊕ (Bool × Unit))) :=
 let at6 := x.1
 let seen7 := x.2.2.1
 let list8 := x.2.2.2.1
 let i9 := x.2.2.2.2.1
 bif (blt i9 (list8.length : Int)) then (
  bif (inR i9 (list8.length : Int)) then (
   let v12 := (list8.getD i9.toNat (0 : Int))
   bif (beq v12 at6) then some (.inr (.inr (true, ())))
   else bif (inR v12 (seen7.length : Int)) then (
    bif (!(seen7.getD v12.toNat false)) then (
     bif (inR v12 (seen7.length : Int)) then (
      (f158 (x.2.1.1, v12, ())).bind fun r17 =>
      (loopF f113_48 (at6, (x.2.1.1, ()), (seen7.set v12.toNat true), list8, i9, r17.1.1, (r17.1.1.length : Int), (0 : Int), ())).bind fun z31 =>
      some (.inl (z31.1, (z31.2.1.1, ()), z31.2.2.1, z31.2.2.2.1, (wr (z31.2.2.2.2.1 + (1 : Int))), ())))
     else none)
    else some (.inl (at6, (x.2.1.1, ()), seen7, list8, (wr (i9 + (1 : Int))), ())))
   else none)
  else none)
 else some (.inr (.inl ()))
def ps113 : List VS := [.val Y4, .val (.int .i64)]
def rs113 : List VS := [.val .bool]
noncomputable def f113 (x : S9 × Int × Unit) : Option ((Bool × Unit) × (Unit)) :=
 let f1 := x.1
 let at2 := x.2.1
 let v3 := (f1.2.2.2.2.2.2.2.1.length : Int)
 bif (inE v3 ((281474976710656 : Nat) : Int)) then (
  (f158 (f1, at2, ())).bind fun r5 =>
  (loopF f113_16 (at2, (f1, ()), (List.replicate v3.toNat false), r5.1.1, (0 : Int), ())).bind fun y41 => match y41 with
   | .inl _ => (
    some ((false, ()), ()))
   | .inr z39 => (
    some ((z39.1, ()), ())))
 else none
/-! ### loop.example/loom/spec.l3copy -/
def sh114_12 : Sh := ⟨[3, 6, 7, 8], [.own 3 (.int .i64), .val (.row (.int .i64)), .val (.int .i64), .val (.int .i64)], []⟩
def outs114_12 : List (Ex × Sh) := [((.exit 0), ⟨[3], [.own 3 (.int .i64)], []⟩)]
noncomputable def f114_12 (x : (List Int) × (List Int) × Int × Int × Unit) : Option (((List Int) × (List Int) × Int × Int × Unit) ⊕ ((List Int) × Unit)) :=
 let out3 := x.1
 let v4 := x.2.1
 let v5 := x.2.2.1
 let v6 := x.2.2.2.1
 bif (blt v6 v5) then (
  bif (inR v6 (v4.length : Int)) then (
   let v8 := (v4.getD v6.toNat (0 : Int))
   bif (nle (out3.length + ([v8]).length) 17592186044416) then (
    some (.inl ((out3 ++ ([v8])), v4, v5, (wr (v6 + (1 : Int))), ())))
   else none)
  else none)
 else some (.inr (out3, ()))
def ps114 : List VS := [.val (.row (.int .i64))]
def rs114 : List VS := [.own 3 (.int .i64)]
noncomputable def f114 (x : (List Int) × Unit) : Option (((List Int) × Unit) × (Unit)) :=
 let a1 := x.1
 (loopF f114_12 (([] : List Int), a1, (a1.length : Int), (0 : Int), ())).bind fun z12 =>
 some ((z12.1, ()), ())
/-! ### loop.example/loom/spec.l3wants -/
def ps161 : List VS := [.val (.int .i64)]
def rs161 : List VS := [.val (.int .i64), .val .bool]
noncomputable def f161 (x : Int × Unit) : Option ((Int × Bool × Unit) × (Unit)) :=
 let role1 := x.1
 bif (beq role1 (2 : Int)) then some (((1 : Int), true, ()), ())
 else bif (beq role1 (3 : Int)) then some (((3 : Int), true, ()), ())
 else bif ((beq role1 (4 : Int)) || ((beq role1 (18 : Int)) || ((beq role1 (19 : Int)) || (beq role1 (20 : Int))))) then some (((1 : Int), false, ()), ())
 else bif (beq role1 (5 : Int)) then some (((2 : Int), false, ()), ())
 else bif (beq role1 (6 : Int)) then some (((3 : Int), false, ()), ())
 else some (((0 : Int), false, ()), ())
/-! ### loop.example/loom/spec.l3read -/
def sh115_64 : Sh := ⟨[0, 1, 2, 3, 4, 6, 10, 11, 12, 13, 17, 28, 29, 30, 65, 66], [.val Y5, .val (.int .i64), .val Y2, .own 3 (.int .i64), .box 32 [.sc Y5] 0, .box 118 [.sc Y2] 0, .own 3 (.int .i64), .own 3 (.int .i64), .own 3 (.int .i64), .val (.int .i64), .val (.int .i64), .own 3 (.int .i64), .val (.int .i64), .val (.int .i64), .val (.int .i64), .val (.int .i64)], [(64, .same 11)]⟩
def outs115_64 : List (Ex × Sh) := [((.exit 2), ⟨[0, 1, 2, 3, 4, 6, 10, 11, 12, 13, 17, 28, 29, 30], [.val Y5, .val (.int .i64), .val Y2, .own 3 (.int .i64), .box 32 [.sc Y5] 0, .box 118 [.sc Y2] 0, .own 3 (.int .i64), .own 3 (.int .i64), .own 3 (.int .i64), .val (.int .i64), .val (.int .i64), .own 3 (.int .i64), .val (.int .i64), .val (.int .i64)], []⟩), (.ret, ⟨[0, 1, 2, 3, 8, 9], [.val Y5, .val (.int .i64), .val Y2, .own 3 (.int .i64), .own 3 (.int .i64), .val .bool], []⟩)]
noncomputable def f115_64 (x : S25 × Int × S2 × (List Int) × (S25 × Unit) × (S2 × Unit) × (List Int) × (List Int) × (List Int) × Int × Int × (List Int) × Int × Int × Int × Int × Unit) : Option ((S25 × Int × S2 × (List Int) × (S25 × Unit) × (S2 × Unit) × (List Int) × (List Int) × (List Int) × Int × Int × (List Int) × Int × Int × Int × Int × Unit) ⊕ ((S25 × Int × S2 × (List Int) × (S25 × Unit) × (S2 × Unit) × (List Int) × (List Int) × (List Int) × Int × Int × (List Int) × Int × Int × Unit) ⊕ (S25 × Int × S2 × (List Int) × (List Int) × Bool × Unit))) :=
 let t30 := x.1
 let o31 := x.2.1
 let A32 := x.2.2.1
 let r33 := x.2.2.2.1
 let v34 := x.2.2.2.2.2.2.1
 let v35 := x.2.2.2.2.2.2.2.1
 let v36 := x.2.2.2.2.2.2.2.2.1
 let v37 := x.2.2.2.2.2.2.2.2.2.1
 let v38 := x.2.2.2.2.2.2.2.2.2.2.1
 let v39 := x.2.2.2.2.2.2.2.2.2.2.2.1
 let v40 := x.2.2.2.2.2.2.2.2.2.2.2.2.1
 let v41 := x.2.2.2.2.2.2.2.2.2.2.2.2.2.1
 let v42 := x.2.2.2.2.2.2.2.2.2.2.2.2.2.2.1
 let v43 := x.2.2.2.2.2.2.2.2.2.2.2.2.2.2.2.1
 bif (blt v43 v42) then (
  bif (inR v43 (v35.length : Int)) then (
   bif (beq (v35.getD v43.toNat (0 : Int)) v38) then (
    some (.inr (.inr (t30, o31, A32, r33, ([] : List Int), false, ()))))
   else some (.inl (t30, o31, A32, r33, (x.2.2.2.2.1.1, ()), (x.2.2.2.2.2.1.1, ()), v34, v35, v36, v37, v38, v39, v40, v41, v42, (wr (v43 + (1 : Int))), ())))
  else none)
 else some (.inr (.inl (t30, o31, A32, r33, (x.2.2.2.2.1.1, ()), (x.2.2.2.2.2.1.1, ()), v34, v35, v36, v37, v38, v39, v40, v41, ())))
def sh115_124 : Sh := ⟨[0, 1, 2, 3, 4, 6, 10, 11, 12, 13, 17, 20, 21, 28, 29, 30], [.val Y5, .val (.int .i64), .val Y2, .own 3 (.int .i64), .box 32 [.sc Y5] 0, .box 118 [.sc Y2] 0, .own 3 (.int .i64), .own 3 (.int .i64), .own 3 (.int .i64), .val (.int .i64), .val (.int .i64), .val (.int .i64), .val (.int .i64), .own 3 (.int .i64), .val (.int .i64), .val (.int .i64)], []⟩
def outs115_124 : List (Ex × Sh) := [((.exit 4), ⟨[0, 1, 2, 3, 4, 6, 10, 11, 12, 13, 17, 28, 29, 30], [.val Y5, .val (.int .i64), .val Y2, .own 3 (.int .i64), .box 32 [.sc Y5] 0, .box 118 [.sc Y2] 0, .own 3 (.int .i64), .own 3 (.int .i64), .own 3 (.int .i64), .val (.int .i64), .val (.int .i64), .own 3 (.int .i64), .val (.int .i64), .val (.int .i64)], []⟩), (.ret, ⟨[0, 1, 2, 3, 8, 9], [.val Y5, .val (.int .i64), .val Y2, .own 3 (.int .i64), .own 3 (.int .i64), .val .bool], []⟩)]
noncomputable def f115_124 (x : S25 × Int × S2 × (List Int) × (S25 × Unit) × (S2 × Unit) × (List Int) × (List Int) × (List Int) × Int × Int × Int × Int × (List Int) × Int × Int × Unit) : Option ((S25 × Int × S2 × (List Int) × (S25 × Unit) × (S2 × Unit) × (List Int) × (List Int) × (List Int) × Int × Int × Int × Int × (List Int) × Int × Int × Unit) ⊕ ((S25 × Int × S2 × (List Int) × (S25 × Unit) × (S2 × Unit) × (List Int) × (List Int) × (List Int) × Int × Int × (List Int) × Int × Int × Unit) ⊕ (S25 × Int × S2 × (List Int) × (List Int) × Bool × Unit))) :=
 let t66 := x.1
 let o67 := x.2.1
 let A68 := x.2.2.1
 let r69 := x.2.2.2.1
 let v70 := x.2.2.2.2.2.2.1
 let v71 := x.2.2.2.2.2.2.2.1
 let v72 := x.2.2.2.2.2.2.2.2.1
 let v73 := x.2.2.2.2.2.2.2.2.2.1
 let v74 := x.2.2.2.2.2.2.2.2.2.2.1
 let v75 := x.2.2.2.2.2.2.2.2.2.2.2.1
 let v76 := x.2.2.2.2.2.2.2.2.2.2.2.2.1
 let v77 := x.2.2.2.2.2.2.2.2.2.2.2.2.2.1
 let v78 := x.2.2.2.2.2.2.2.2.2.2.2.2.2.2.1
 let v79 := x.2.2.2.2.2.2.2.2.2.2.2.2.2.2.2.1
 bif (ble v76 v75) then (
  let v81 := (wr (v74 + v76))
  bif (inR v81 (r69.length : Int)) then (
   bif (bne (r69.getD v81.toNat (0 : Int)) (1 : Int)) then (
    some (.inr (.inr (t66, o67, A68, r69, ([] : List Int), false, ()))))
   else some (.inl (t66, o67, A68, r69, (x.2.2.2.2.1.1, ()), (x.2.2.2.2.2.1.1, ()), v70, v71, v72, v73, v74, v75, (wr (v76 + (1 : Int))), v77, v78, v79, ())))
  else none)
 else some (.inr (.inl (t66, o67, A68, r69, (x.2.2.2.2.1.1, ()), (x.2.2.2.2.2.1.1, ()), v70, v71, v72, v73, v74, v77, v78, v79, ())))
def sh115_20 : Sh := ⟨[0, 1, 2, 3, 4, 6, 10, 11, 12, 28, 29, 30], [.val Y5, .val (.int .i64), .val Y2, .own 3 (.int .i64), .box 32 [.sc Y5] 0, .box 118 [.sc Y2] 0, .own 3 (.int .i64), .own 3 (.int .i64), .own 3 (.int .i64), .own 3 (.int .i64), .val (.int .i64), .val (.int .i64)], []⟩
def outs115_20 : List (Ex × Sh) := [((.exit 0), ⟨[0, 1, 2, 3, 4, 6, 10], [.val Y5, .val (.int .i64), .val Y2, .own 3 (.int .i64), .box 32 [.sc Y5] 0, .box 118 [.sc Y2] 0, .own 3 (.int .i64)], []⟩), (.ret, ⟨[0, 1, 2, 3, 8, 9], [.val Y5, .val (.int .i64), .val Y2, .own 3 (.int .i64), .own 3 (.int .i64), .val .bool], []⟩)]
noncomputable def f115_20 (x : S25 × Int × S2 × (List Int) × (S25 × Unit) × (S2 × Unit) × (List Int) × (List Int) × (List Int) × (List Int) × Int × Int × Unit) : Option ((S25 × Int × S2 × (List Int) × (S25 × Unit) × (S2 × Unit) × (List Int) × (List Int) × (List Int) × (List Int) × Int × Int × Unit) ⊕ ((S25 × Int × S2 × (List Int) × (S25 × Unit) × (S2 × Unit) × (List Int) × Unit) ⊕ (S25 × Int × S2 × (List Int) × (List Int) × Bool × Unit))) :=
 let t8 := x.1
 let o9 := x.2.1
 let A10 := x.2.2.1
 let r11 := x.2.2.2.1
 let v12 := x.2.2.2.2.2.2.1
 let v13 := x.2.2.2.2.2.2.2.1
 let v14 := x.2.2.2.2.2.2.2.2.1
 let v15 := x.2.2.2.2.2.2.2.2.2.1
 let v16 := x.2.2.2.2.2.2.2.2.2.2.1
 let v17 := x.2.2.2.2.2.2.2.2.2.2.2.1
 bif (blt v17 v16) then (
  bif (inR v17 (v15.length : Int)) then (
   let v19 := (v15.getD v17.toNat (0 : Int))
   bif (inR v17 (v14.length : Int)) then (
    (f161 ((v14.getD v17.toNat (0 : Int)), ())).bind fun r21 =>
    bif (beq r21.1.1 (0 : Int)) then (
     some (.inl (t8, o9, A10, r11, (x.2.2.2.2.1.1, ()), (x.2.2.2.2.2.1.1, ()), v12, v13, v14, v15, v16, (wr (v17 + (1 : Int))), ())))
    else (
     let v25 := (bif (r21.1.2.1 && (blt v19 (0 : Int))) then (wr ((-1 : Int) - v19)) else v19)
     bif (inR v25 (r11.length : Int)) then (
      bif (bne (r11.getD v25.toNat (0 : Int)) r21.1.1) then (
       some (.inr (.inr (t8, o9, A10, r11, ([] : List Int), false, ()))))
      else bif (r21.1.2.1 && (blt v19 (0 : Int))) then (
       (loopF f115_64 (t8, o9, A10, r11, (x.2.2.2.2.1.1, ()), (x.2.2.2.2.2.1.1, ()), v12, v13, v14, v17, v25, v15, v16, v17, (v13.length : Int), (0 : Int), ())).bind fun y155 => match y155 with
        | .inl z48 => (
         let t49 := z48.1
         let o50 := z48.2.1
         let A51 := z48.2.2.1
         let r52 := z48.2.2.2.1
         let v53 := z48.2.2.2.2.2.2.1
         let v54 := z48.2.2.2.2.2.2.2.1
         let v55 := z48.2.2.2.2.2.2.2.2.1
         let v56 := z48.2.2.2.2.2.2.2.2.2.1
         let v57 := z48.2.2.2.2.2.2.2.2.2.2.1
         let v58 := z48.2.2.2.2.2.2.2.2.2.2.2.1
         let v59 := z48.2.2.2.2.2.2.2.2.2.2.2.2.1
         let v60 := z48.2.2.2.2.2.2.2.2.2.2.2.2.2.1
         bif (inR v57 (r52.length : Int)) then (
          let row61 := (r52.set v57.toNat (0 : Int))
          bif (nle (v53.length + ([v57]).length) 17592186044416) then (
           let row63 := (v53 ++ ([v57]))
           bif (inR v56 (v55.length : Int)) then (
            bif (beq (v55.getD v56.toNat (0 : Int)) (18 : Int)) then (
             (loopF f115_124 (t49, o50, A51, row61, (z48.2.2.2.2.1.1, ()), (z48.2.2.2.2.2.1.1, ()), row63, v54, v55, v56, v57, (2 : Int), (1 : Int), v58, v59, v60, ())).bind fun y114 => match y114 with
              | .inl z85 => (
               let t86 := z85.1
               let o87 := z85.2.1
               let A88 := z85.2.2.1
               let r89 := z85.2.2.2.1
               let v90 := z85.2.2.2.2.2.2.1
               let v91 := z85.2.2.2.2.2.2.2.1
               let v92 := z85.2.2.2.2.2.2.2.2.1
               let v93 := z85.2.2.2.2.2.2.2.2.2.1
               let v94 := z85.2.2.2.2.2.2.2.2.2.2.1
               let v95 := z85.2.2.2.2.2.2.2.2.2.2.2.1
               let v96 := z85.2.2.2.2.2.2.2.2.2.2.2.2.1
               let v97 := z85.2.2.2.2.2.2.2.2.2.2.2.2.2.1
               bif (inR v93 (v92.length : Int)) then (
                bif (beq (v92.getD v93.toNat (0 : Int)) (19 : Int)) then (
                 let v100 := (wr (v94 + (1 : Int)))
                 bif (inR v100 (r89.length : Int)) then (
                  bif (bne (r89.getD v100.toNat (0 : Int)) (0 : Int)) then (
                   some (.inr (.inr (t86, o87, A88, r89, ([] : List Int), false, ()))))
                  else bif (nle (v90.length + ([v94]).length) 17592186044416) then (
                   some (.inl (t86, o87, A88, r89, (z85.2.2.2.2.1.1, ()), (z85.2.2.2.2.2.1.1, ()), (v90 ++ ([v94])), v91, v92, v95, v96, (wr (v97 + (1 : Int))), ())))
                  else none)
                 else none)
                else some (.inl (t86, o87, A88, r89, (z85.2.2.2.2.1.1, ()), (z85.2.2.2.2.2.1.1, ()), v90, v91, v92, v95, v96, (wr (v97 + (1 : Int))), ())))
               else none)
              | .inr z107 => (
               some (.inr (.inr (z107.1, z107.2.1, z107.2.2.1, z107.2.2.2.1, z107.2.2.2.2.1, z107.2.2.2.2.2.1, ())))))
            else bif (inR v56 (v55.length : Int)) then (
             (loopF f115_124 (t49, o50, A51, row61, (z48.2.2.2.2.1.1, ()), (z48.2.2.2.2.2.1.1, ()), row63, v54, v55, v56, v57, (bif (beq (v55.getD v56.toNat (0 : Int)) (20 : Int)) then (1 : Int) else (0 : Int)), (1 : Int), v58, v59, v60, ())).bind fun y147 => match y147 with
              | .inl z118 => (
               let t119 := z118.1
               let o120 := z118.2.1
               let A121 := z118.2.2.1
               let r122 := z118.2.2.2.1
               let v123 := z118.2.2.2.2.2.2.1
               let v124 := z118.2.2.2.2.2.2.2.1
               let v125 := z118.2.2.2.2.2.2.2.2.1
               let v126 := z118.2.2.2.2.2.2.2.2.2.1
               let v127 := z118.2.2.2.2.2.2.2.2.2.2.1
               let v128 := z118.2.2.2.2.2.2.2.2.2.2.2.1
               let v129 := z118.2.2.2.2.2.2.2.2.2.2.2.2.1
               let v130 := z118.2.2.2.2.2.2.2.2.2.2.2.2.2.1
               bif (inR v126 (v125.length : Int)) then (
                bif (beq (v125.getD v126.toNat (0 : Int)) (19 : Int)) then (
                 let v133 := (wr (v127 + (1 : Int)))
                 bif (inR v133 (r122.length : Int)) then (
                  bif (bne (r122.getD v133.toNat (0 : Int)) (0 : Int)) then (
                   some (.inr (.inr (t119, o120, A121, r122, ([] : List Int), false, ()))))
                  else bif (nle (v123.length + ([v127]).length) 17592186044416) then (
                   some (.inl (t119, o120, A121, r122, (z118.2.2.2.2.1.1, ()), (z118.2.2.2.2.2.1.1, ()), (v123 ++ ([v127])), v124, v125, v128, v129, (wr (v130 + (1 : Int))), ())))
                  else none)
                 else none)
                else some (.inl (t119, o120, A121, r122, (z118.2.2.2.2.1.1, ()), (z118.2.2.2.2.2.1.1, ()), v123, v124, v125, v128, v129, (wr (v130 + (1 : Int))), ())))
               else none)
              | .inr z140 => (
               some (.inr (.inr (z140.1, z140.2.1, z140.2.2.1, z140.2.2.2.1, z140.2.2.2.2.1, z140.2.2.2.2.2.1, ())))))
            else none)
           else none)
          else none)
         else none)
        | .inr z148 => (
         some (.inr (.inr (z148.1, z148.2.1, z148.2.2.1, z148.2.2.2.1, z148.2.2.2.2.1, z148.2.2.2.2.2.1, ())))))
      else bif (!r21.1.2.1) then (
       bif (nle (v13.length + ([v25]).length) 17592186044416) then (
        let row158 := (v13 ++ ([v25]))
        bif (inR v17 (v14.length : Int)) then (
         bif (beq (v14.getD v17.toNat (0 : Int)) (18 : Int)) then (
          (loopF f115_124 (t8, o9, A10, r11, (x.2.2.2.2.1.1, ()), (x.2.2.2.2.2.1.1, ()), v12, row158, v14, v17, v25, (2 : Int), (1 : Int), v15, v16, v17, ())).bind fun y190 => match y190 with
           | .inl z161 => (
            let t162 := z161.1
            let o163 := z161.2.1
            let A164 := z161.2.2.1
            let r165 := z161.2.2.2.1
            let v166 := z161.2.2.2.2.2.2.1
            let v167 := z161.2.2.2.2.2.2.2.1
            let v168 := z161.2.2.2.2.2.2.2.2.1
            let v169 := z161.2.2.2.2.2.2.2.2.2.1
            let v170 := z161.2.2.2.2.2.2.2.2.2.2.1
            let v171 := z161.2.2.2.2.2.2.2.2.2.2.2.1
            let v172 := z161.2.2.2.2.2.2.2.2.2.2.2.2.1
            let v173 := z161.2.2.2.2.2.2.2.2.2.2.2.2.2.1
            bif (inR v169 (v168.length : Int)) then (
             bif (beq (v168.getD v169.toNat (0 : Int)) (19 : Int)) then (
              let v176 := (wr (v170 + (1 : Int)))
              bif (inR v176 (r165.length : Int)) then (
               bif (bne (r165.getD v176.toNat (0 : Int)) (0 : Int)) then (
                some (.inr (.inr (t162, o163, A164, r165, ([] : List Int), false, ()))))
               else bif (nle (v166.length + ([v170]).length) 17592186044416) then (
                some (.inl (t162, o163, A164, r165, (z161.2.2.2.2.1.1, ()), (z161.2.2.2.2.2.1.1, ()), (v166 ++ ([v170])), v167, v168, v171, v172, (wr (v173 + (1 : Int))), ())))
               else none)
              else none)
             else some (.inl (t162, o163, A164, r165, (z161.2.2.2.2.1.1, ()), (z161.2.2.2.2.2.1.1, ()), v166, v167, v168, v171, v172, (wr (v173 + (1 : Int))), ())))
            else none)
           | .inr z183 => (
            some (.inr (.inr (z183.1, z183.2.1, z183.2.2.1, z183.2.2.2.1, z183.2.2.2.2.1, z183.2.2.2.2.2.1, ())))))
         else bif (inR v17 (v14.length : Int)) then (
          (loopF f115_124 (t8, o9, A10, r11, (x.2.2.2.2.1.1, ()), (x.2.2.2.2.2.1.1, ()), v12, row158, v14, v17, v25, (bif (beq (v14.getD v17.toNat (0 : Int)) (20 : Int)) then (1 : Int) else (0 : Int)), (1 : Int), v15, v16, v17, ())).bind fun y223 => match y223 with
           | .inl z194 => (
            let t195 := z194.1
            let o196 := z194.2.1
            let A197 := z194.2.2.1
            let r198 := z194.2.2.2.1
            let v199 := z194.2.2.2.2.2.2.1
            let v200 := z194.2.2.2.2.2.2.2.1
            let v201 := z194.2.2.2.2.2.2.2.2.1
            let v202 := z194.2.2.2.2.2.2.2.2.2.1
            let v203 := z194.2.2.2.2.2.2.2.2.2.2.1
            let v204 := z194.2.2.2.2.2.2.2.2.2.2.2.1
            let v205 := z194.2.2.2.2.2.2.2.2.2.2.2.2.1
            let v206 := z194.2.2.2.2.2.2.2.2.2.2.2.2.2.1
            bif (inR v202 (v201.length : Int)) then (
             bif (beq (v201.getD v202.toNat (0 : Int)) (19 : Int)) then (
              let v209 := (wr (v203 + (1 : Int)))
              bif (inR v209 (r198.length : Int)) then (
               bif (bne (r198.getD v209.toNat (0 : Int)) (0 : Int)) then (
                some (.inr (.inr (t195, o196, A197, r198, ([] : List Int), false, ()))))
               else bif (nle (v199.length + ([v203]).length) 17592186044416) then (
                some (.inl (t195, o196, A197, r198, (z194.2.2.2.2.1.1, ()), (z194.2.2.2.2.2.1.1, ()), (v199 ++ ([v203])), v200, v201, v204, v205, (wr (v206 + (1 : Int))), ())))
               else none)
              else none)
             else some (.inl (t195, o196, A197, r198, (z194.2.2.2.2.1.1, ()), (z194.2.2.2.2.2.1.1, ()), v199, v200, v201, v204, v205, (wr (v206 + (1 : Int))), ())))
            else none)
           | .inr z216 => (
            some (.inr (.inr (z216.1, z216.2.1, z216.2.2.1, z216.2.2.2.1, z216.2.2.2.2.1, z216.2.2.2.2.2.1, ())))))
         else none)
        else none)
       else none)
      else bif (inR v17 (v14.length : Int)) then (
       bif (beq (v14.getD v17.toNat (0 : Int)) (18 : Int)) then (
        (loopF f115_124 (t8, o9, A10, r11, (x.2.2.2.2.1.1, ()), (x.2.2.2.2.2.1.1, ()), v12, v13, v14, v17, v25, (2 : Int), (1 : Int), v15, v16, v17, ())).bind fun y255 => match y255 with
         | .inl z226 => (
          let t227 := z226.1
          let o228 := z226.2.1
          let A229 := z226.2.2.1
          let r230 := z226.2.2.2.1
          let v231 := z226.2.2.2.2.2.2.1
          let v232 := z226.2.2.2.2.2.2.2.1
          let v233 := z226.2.2.2.2.2.2.2.2.1
          let v234 := z226.2.2.2.2.2.2.2.2.2.1
          let v235 := z226.2.2.2.2.2.2.2.2.2.2.1
          let v236 := z226.2.2.2.2.2.2.2.2.2.2.2.1
          let v237 := z226.2.2.2.2.2.2.2.2.2.2.2.2.1
          let v238 := z226.2.2.2.2.2.2.2.2.2.2.2.2.2.1
          bif (inR v234 (v233.length : Int)) then (
           bif (beq (v233.getD v234.toNat (0 : Int)) (19 : Int)) then (
            let v241 := (wr (v235 + (1 : Int)))
            bif (inR v241 (r230.length : Int)) then (
             bif (bne (r230.getD v241.toNat (0 : Int)) (0 : Int)) then (
              some (.inr (.inr (t227, o228, A229, r230, ([] : List Int), false, ()))))
             else bif (nle (v231.length + ([v235]).length) 17592186044416) then (
              some (.inl (t227, o228, A229, r230, (z226.2.2.2.2.1.1, ()), (z226.2.2.2.2.2.1.1, ()), (v231 ++ ([v235])), v232, v233, v236, v237, (wr (v238 + (1 : Int))), ())))
             else none)
            else none)
           else some (.inl (t227, o228, A229, r230, (z226.2.2.2.2.1.1, ()), (z226.2.2.2.2.2.1.1, ()), v231, v232, v233, v236, v237, (wr (v238 + (1 : Int))), ())))
          else none)
         | .inr z248 => (
          some (.inr (.inr (z248.1, z248.2.1, z248.2.2.1, z248.2.2.2.1, z248.2.2.2.2.1, z248.2.2.2.2.2.1, ())))))
       else bif (inR v17 (v14.length : Int)) then (
        (loopF f115_124 (t8, o9, A10, r11, (x.2.2.2.2.1.1, ()), (x.2.2.2.2.2.1.1, ()), v12, v13, v14, v17, v25, (bif (beq (v14.getD v17.toNat (0 : Int)) (20 : Int)) then (1 : Int) else (0 : Int)), (1 : Int), v15, v16, v17, ())).bind fun y288 => match y288 with
         | .inl z259 => (
          let t260 := z259.1
          let o261 := z259.2.1
          let A262 := z259.2.2.1
          let r263 := z259.2.2.2.1
          let v264 := z259.2.2.2.2.2.2.1
          let v265 := z259.2.2.2.2.2.2.2.1
          let v266 := z259.2.2.2.2.2.2.2.2.1
          let v267 := z259.2.2.2.2.2.2.2.2.2.1
          let v268 := z259.2.2.2.2.2.2.2.2.2.2.1
          let v269 := z259.2.2.2.2.2.2.2.2.2.2.2.1
          let v270 := z259.2.2.2.2.2.2.2.2.2.2.2.2.1
          let v271 := z259.2.2.2.2.2.2.2.2.2.2.2.2.2.1
          bif (inR v267 (v266.length : Int)) then (
           bif (beq (v266.getD v267.toNat (0 : Int)) (19 : Int)) then (
            let v274 := (wr (v268 + (1 : Int)))
            bif (inR v274 (r263.length : Int)) then (
             bif (bne (r263.getD v274.toNat (0 : Int)) (0 : Int)) then (
              some (.inr (.inr (t260, o261, A262, r263, ([] : List Int), false, ()))))
             else bif (nle (v264.length + ([v268]).length) 17592186044416) then (
              some (.inl (t260, o261, A262, r263, (z259.2.2.2.2.1.1, ()), (z259.2.2.2.2.2.1.1, ()), (v264 ++ ([v268])), v265, v266, v269, v270, (wr (v271 + (1 : Int))), ())))
             else none)
            else none)
           else some (.inl (t260, o261, A262, r263, (z259.2.2.2.2.1.1, ()), (z259.2.2.2.2.2.1.1, ()), v264, v265, v266, v269, v270, (wr (v271 + (1 : Int))), ())))
          else none)
         | .inr z281 => (
          some (.inr (.inr (z281.1, z281.2.1, z281.2.2.1, z281.2.2.2.1, z281.2.2.2.2.1, z281.2.2.2.2.2.1, ())))))
       else none)
      else none)
     else none))
   else none)
  else none)
 else some (.inr (.inl (t8, o9, A10, r11, (x.2.2.2.2.1.1, ()), (x.2.2.2.2.2.1.1, ()), v12, ())))
def sh115_168 : Sh := ⟨[0, 1, 2, 3, 10, 134, 135, 136], [.val Y5, .val (.int .i64), .val Y2, .own 3 (.int .i64), .own 3 (.int .i64), .val (.row Y0), .val (.int .i64), .val (.int .i64)], []⟩
def outs115_168 : List (Ex × Sh) := [((.exit 6), ⟨[0, 1, 2, 3, 10], [.val Y5, .val (.int .i64), .val Y2, .own 3 (.int .i64), .own 3 (.int .i64)], []⟩), (.ret, ⟨[0, 1, 2, 3, 8, 9], [.val Y5, .val (.int .i64), .val Y2, .own 3 (.int .i64), .own 3 (.int .i64), .val .bool], []⟩)]
noncomputable def f115_168 (x : S25 × Int × S2 × (List Int) × (List Int) × (List S0) × Int × Int × Unit) : Option ((S25 × Int × S2 × (List Int) × (List Int) × (List S0) × Int × Int × Unit) ⊕ ((S25 × Int × S2 × (List Int) × (List Int) × Unit) ⊕ (S25 × Int × S2 × (List Int) × (List Int) × Bool × Unit))) :=
 let t298 := x.1
 let o299 := x.2.1
 let A300 := x.2.2.1
 let r301 := x.2.2.2.1
 let v302 := x.2.2.2.2.1
 let v303 := x.2.2.2.2.2.1
 let v304 := x.2.2.2.2.2.2.1
 let v305 := x.2.2.2.2.2.2.2.1
 bif (blt v305 v304) then (
  bif (inR v305 (v303.length : Int)) then (
   (joinB (v303.getD v305.toNat (false, (0 : Int))).1 (bif (inR (v303.getD v305.toNat (false, (0 : Int))).2 (r301.length : Int)) then (some (bne (r301.getD (v303.getD v305.toNat (false, (0 : Int))).2.toNat (0 : Int)) (2 : Int))) else none) (some false)).bind fun c308 =>
   bif c308 then (
    some (.inr (.inr (t298, o299, A300, r301, ([] : List Int), false, ()))))
   else some (.inl (t298, o299, A300, r301, v302, v303, v304, (wr (v305 + (1 : Int))), ())))
  else none)
 else some (.inr (.inl (t298, o299, A300, r301, v302, ())))
def ps115 : List VS := [.val Y5, .val (.int .i64), .val Y2, .own 3 (.int .i64)]
def rs115 : List VS := [.own 3 (.int .i64), .val .bool]
noncomputable def f115 (x : S25 × Int × S2 × (List Int) × Unit) : Option (((List Int) × Bool × Unit) × ((List Int) × Unit)) :=
 let t1 := x.1
 let A3 := x.2.2.1
 (f159 (A3.1, ())).bind fun r5 =>
 (f160 (A3, ())).bind fun r6 =>
 (loopF f115_20 (t1, x.2.1, A3, x.2.2.2.1, (t1, ()), (A3, ()), ([] : List Int), ([] : List Int), r5.1.1, r6.1.1, (r6.1.1.length : Int), (0 : Int), ())).bind fun y331 => match y331 with
  | .inl z289 => (
   let r293 := z289.2.2.2.1
   let v294 := z289.2.2.2.2.2.2.1
   bif (beq z289.2.2.2.2.2.1.1.1 (11 : Int)) then (
    bif (inR z289.2.2.2.2.2.1.1.2.2.1 (z289.2.2.2.2.1.1.length : Int)) then (
     let v296 := (z289.2.2.2.2.1.1.getD z289.2.2.2.2.2.1.1.2.2.1.toNat ((⟨#[]⟩ : ByteArray), (0 : Int), (0 : Int), false, (0 : Int), ([] : List S0), ([] : List S1), ([] : List S2), ([] : List S3))).2.2.2.2.2.1
     (loopF f115_168 (z289.1, z289.2.1, z289.2.2.1, r293, v294, v296, (v296.length : Int), (0 : Int), ())).bind fun y323 => match y323 with
      | .inl z310 => (
       some ((z310.2.2.2.2.1, true, ()), z310.2.2.2.1, ()))
      | .inr z316 => (
       some ((z316.2.2.2.2.1, z316.2.2.2.2.2.1, ()), z316.2.2.2.1, ())))
    else none)
   else some ((v294, true, ()), r293, ()))
  | .inr z324 => (
   some ((z324.2.2.2.2.1, z324.2.2.2.2.2.1, ()), z324.2.2.2.1, ()))
/-! ### loop.example/loom/spec.l3guards -/
def sh120_12 : Sh := ⟨[3, 6, 7, 8], [.own 278 Y24, .val (.row Y24), .val (.int .i64), .val (.int .i64)], []⟩
def outs120_12 : List (Ex × Sh) := [((.exit 0), ⟨[3], [.own 278 Y24], []⟩)]
noncomputable def f120_12 (x : (List S4) × (List S4) × Int × Int × Unit) : Option (((List S4) × (List S4) × Int × Int × Unit) ⊕ ((List S4) × Unit)) :=
 let out3 := x.1
 let v4 := x.2.1
 let v5 := x.2.2.1
 let v6 := x.2.2.2.1
 bif (blt v6 v5) then (
  bif (inR v6 (v4.length : Int)) then (
   let row8 := ([(v4.getD v6.toNat (false, (0 : Int), (0 : Int)))])
   bif (nle (out3.length + row8.length) 5864062014805) then (
    some (.inl ((out3 ++ row8), v4, v5, (wr (v6 + (1 : Int))), ())))
   else none)
  else none)
 else some (.inr (out3, ()))
def ps120 : List VS := [.val (.row Y24)]
def rs120 : List VS := [.own 278 Y24]
noncomputable def f120 (x : (List S4) × Unit) : Option (((List S4) × Unit) × (Unit)) :=
 let a1 := x.1
 (loopF f120_12 (([] : List S4), a1, (a1.length : Int), (0 : Int), ())).bind fun z11 =>
 some ((z11.1, ()), ())
/-! ### loop.example/loom/spec.l3above -/
def sh162_8 : Sh := ⟨[1, 7, 8, 9], [.val (.int .i64), .val (.row Y24), .val (.int .i64), .val (.int .i64)], []⟩
def outs162_8 : List (Ex × Sh) := [((.exit 0), ⟨[], [], []⟩), (.ret, ⟨[4], [.val .bool], []⟩)]
noncomputable def f162_8 (x : Int × (List S4) × Int × Int × Unit) : Option ((Int × (List S4) × Int × Int × Unit) ⊕ ((Unit) ⊕ (Bool × Unit))) :=
 let keep4 := x.1
 let v5 := x.2.1
 let v6 := x.2.2.1
 let v7 := x.2.2.2.1
 bif (blt v7 v6) then (
  bif (inR v7 (v5.length : Int)) then (
   bif ((v5.getD v7.toNat (false, (0 : Int), (0 : Int))).1 && (blt keep4 (v5.getD v7.toNat (false, (0 : Int), (0 : Int))).2.1)) then some (.inr (.inr (false, ())))
   else some (.inl (keep4, v5, v6, (wr (v7 + (1 : Int))), ())))
  else none)
 else some (.inr (.inl ()))
def ps162 : List VS := [.val (.row Y24), .val (.int .i64)]
def rs162 : List VS := [.val .bool]
noncomputable def f162 (x : (List S4) × Int × Unit) : Option ((Bool × Unit) × (Unit)) :=
 let guards1 := x.1
 (loopF f162_8 (x.2.1, guards1, (guards1.length : Int), (0 : Int), ())).bind fun y15 => match y15 with
  | .inl _ => (
   some ((true, ()), ()))
  | .inr z13 => (
   some ((z13.1, ()), ()))
/-! ### loop.example/loom/spec.l3change -/
def ps116 : List VS := [.val Y2, .val (.row Y24)]
def rs116 : List VS := [.own 278 Y24, .val .bool]
noncomputable def f116 (x : S2 × (List S4) × Unit) : Option (((List S4) × Bool × Unit) × (Unit)) :=
 let n1 := x.1
 let guards2 := x.2.1
 (f120 (guards2, ())).bind fun r3 =>
 let v4 := (r3.1.1.length : Int)
 bif (beq n1.1 (31 : Int)) then (
  let row6 := ([(true, n1.2.2.1, n1.2.1)])
  bif (nle (r3.1.1.length + row6.length) 5864062014805) then (
   (joinB (blt v4 (50 : Int)) ((f162 (guards2, n1.2.2.1, ())).bind fun r9 => (some r9.1.1)) (some false)).bind fun c10 =>
   some (((r3.1.1 ++ row6), c10, ()), ()))
  else none)
 else bif (beq n1.1 (33 : Int)) then (
  let row12 := ([(false, n1.2.1, (0 : Int))])
  bif (nle (r3.1.1.length + row12.length) 5864062014805) then (
   (joinB (blt v4 (50 : Int)) ((f162 (guards2, n1.2.1, ())).bind fun r15 => (some r15.1.1)) (some false)).bind fun c16 =>
   some (((r3.1.1 ++ row12), c16, ()), ()))
  else none)
 else bif (beq n1.1 (32 : Int)) then (
  (joinB (beq v4 (0 : Int)) (some true) (bif (inR (wr (v4 - (1 : Int))) (r3.1.1.length : Int)) then (some (!(r3.1.1.getD (wr (v4 - (1 : Int))).toNat (false, (0 : Int), (0 : Int))).1)) else none)).bind fun c19 =>
  bif c19 then some ((([] : List S4), false, ()), ())
  else (
   let v20 := (wr (v4 - (1 : Int)))
   bif (inE v20 (r3.1.1.length : Int)) then some (((r3.1.1.take v20.toNat), true, ()), ())
   else none))
 else bif ((beq n1.1 (34 : Int)) || ((beq n1.1 (35 : Int)) || (beq n1.1 (36 : Int)))) then (
  (joinB (beq v4 (0 : Int)) (some true) (bif (inR (wr (v4 - (1 : Int))) (r3.1.1.length : Int)) then (some (r3.1.1.getD (wr (v4 - (1 : Int))).toNat (false, (0 : Int), (0 : Int))).1) else none)).bind fun c25 =>
  (joinB c25 (some true) (joinB (beq n1.1 (34 : Int)) ((f162 (guards2, n1.2.1, ())).bind fun r26 => (some (!r26.1.1))) (some false))).bind fun c27 =>
  bif c27 then some ((([] : List S4), false, ()), ())
  else bif (beq n1.1 (34 : Int)) then (
   let v29 := (wr (v4 - (1 : Int)))
   bif (inR v29 (r3.1.1.length : Int)) then (
    let row30 := (r3.1.1.set v29.toNat ((r3.1.1.getD v29.toNat (false, (0 : Int), (0 : Int))).1, n1.2.1, (r3.1.1.getD v29.toNat (false, (0 : Int), (0 : Int))).2.2))
    bif (beq n1.1 (36 : Int)) then (
     let v32 := (wr (v4 - (1 : Int)))
     bif (inE v32 (row30.length : Int)) then some (((row30.take v32.toNat), true, ()), ())
     else none)
    else some ((row30, true, ()), ()))
   else none)
  else bif (beq n1.1 (36 : Int)) then (
   let v35 := (wr (v4 - (1 : Int)))
   bif (inE v35 (r3.1.1.length : Int)) then some (((r3.1.1.take v35.toNat), true, ()), ())
   else none)
  else some ((r3.1.1, true, ()), ()))
 else some ((r3.1.1, true, ()), ())
/-! ### loop.example/loom/spec.l3write -/
def ps117 : List VS := [.val Y2, .own 3 (.int .i64)]
def rs117 : List VS := []
noncomputable def f117 (x : S2 × (List Int) × Unit) : Option ((Unit) × ((List Int) × Unit)) :=
 let n1 := x.1
 let types2 := x.2.1
 bif (beq n1.1 (6 : Int)) then (
  bif (inR n1.2.1 (types2.length : Int)) then some ((), (types2.set n1.2.1.toNat (2 : Int)), ())
  else none)
 else bif ((beq n1.1 (22 : Int)) || ((beq n1.1 (27 : Int)) || (beq n1.1 (28 : Int)))) then (
  bif (inR n1.2.1 (types2.length : Int)) then some ((), (types2.set n1.2.1.toNat (3 : Int)), ())
  else none)
 else bif (beq n1.1 (40 : Int)) then (
  let v9 := (wr (n1.2.1 + (1 : Int)))
  bif (inR v9 (types2.length : Int)) then some ((), (types2.set v9.toNat (1 : Int)), ())
  else none)
 else bif (beq n1.1 (42 : Int)) then (
  bif (inR n1.2.1 (types2.length : Int)) then some ((), (types2.set n1.2.1.toNat (0 : Int)), ())
  else none)
 else bif (beq n1.1 (41 : Int)) then (
  bif (inR n1.2.2.2.1 (types2.length : Int)) then some ((), (types2.set n1.2.2.2.1.toNat (3 : Int)), ())
  else none)
 else (
  (f159 (n1.1, ())).bind fun r15 =>
  bif (inR (0 : Int) (r15.1.1.length : Int)) then (
   bif (beq (r15.1.1.getD (0 : Int).toNat (0 : Int)) (1 : Int)) then (
    bif (inR n1.2.1 (types2.length : Int)) then some ((), (types2.set n1.2.1.toNat (1 : Int)), ())
    else none)
   else some ((), types2, ()))
  else none)
/-! ### loop.example/loom/spec.l3kept -/
def sh118_24 : Sh := ⟨[1, 2, 3, 4, 5, 11, 12, 16, 17, 18, 26, 27, 28], [.val (.row Y24), .val (.row (.int .i64)), .val (.row (.int .i64)), .val (.row (.int .i64)), .box 118 [.sc Y2] 0, .val (.int .i64), .box 278 [.sc Y24] 0, .val (.row Y24), .val (.int .i64), .val (.int .i64), .val (.row (.int .i64)), .val (.int .i64), .val (.int .i64)], []⟩
def outs118_24 : List (Ex × Sh) := [((.exit 2), ⟨[1, 2, 3, 4, 5, 11, 12, 16, 17, 18], [.val (.row Y24), .val (.row (.int .i64)), .val (.row (.int .i64)), .val (.row (.int .i64)), .box 118 [.sc Y2] 0, .val (.int .i64), .box 278 [.sc Y24] 0, .val (.row Y24), .val (.int .i64), .val (.int .i64)], []⟩), (.ret, ⟨[10], [.val .bool], []⟩)]
noncomputable def f118_24 (x : (List S4) × (List Int) × (List Int) × (List Int) × (S2 × Unit) × Int × (S4 × Unit) × (List S4) × Int × Int × (List Int) × Int × Int × Unit) : Option (((List S4) × (List Int) × (List Int) × (List Int) × (S2 × Unit) × Int × (S4 × Unit) × (List S4) × Int × Int × (List Int) × Int × Int × Unit) ⊕ (((List S4) × (List Int) × (List Int) × (List Int) × (S2 × Unit) × Int × (S4 × Unit) × (List S4) × Int × Int × Unit) ⊕ (Bool × Unit))) :=
 let guards19 := x.1
 let taken20 := x.2.1
 let before21 := x.2.2.1
 let behind22 := x.2.2.2.1
 let i23 := x.2.2.2.2.2.1
 let v24 := x.2.2.2.2.2.2.2.1
 let v25 := x.2.2.2.2.2.2.2.2.1
 let v26 := x.2.2.2.2.2.2.2.2.2.1
 let v27 := x.2.2.2.2.2.2.2.2.2.2.1
 let v28 := x.2.2.2.2.2.2.2.2.2.2.2.1
 let v29 := x.2.2.2.2.2.2.2.2.2.2.2.2.1
 bif (blt v29 v28) then (
  bif (inR v29 (v27.length : Int)) then (
   bif (blt (v27.getD v29.toNat (0 : Int)) x.2.2.2.2.2.2.1.1.2.1) then some (.inr (.inr (false, ())))
   else some (.inl (guards19, taken20, before21, behind22, (x.2.2.2.2.1.1, ()), i23, (x.2.2.2.2.2.2.1.1, ()), v24, v25, v26, v27, v28, (wr (v29 + (1 : Int))), ())))
  else none)
 else some (.inr (.inl (guards19, taken20, before21, behind22, (x.2.2.2.2.1.1, ()), i23, (x.2.2.2.2.2.2.1.1, ()), v24, v25, v26, ())))
def sh118_52 : Sh := ⟨[1, 2, 3, 4, 5, 12, 15, 16, 17, 18], [.val (.row Y24), .val (.row (.int .i64)), .val (.row (.int .i64)), .val (.row (.int .i64)), .box 118 [.sc Y2] 0, .box 278 [.sc Y24] 0, .val (.int .i64), .val (.row Y24), .val (.int .i64), .val (.int .i64)], []⟩
def outs118_52 : List (Ex × Sh) := [((.exit 4), ⟨[1, 2, 3, 4, 5, 16, 17, 18], [.val (.row Y24), .val (.row (.int .i64)), .val (.row (.int .i64)), .val (.row (.int .i64)), .box 118 [.sc Y2] 0, .val (.row Y24), .val (.int .i64), .val (.int .i64)], []⟩), (.ret, ⟨[10], [.val .bool], []⟩)]
noncomputable def f118_52 (x : (List S4) × (List Int) × (List Int) × (List Int) × (S2 × Unit) × (S4 × Unit) × Int × (List S4) × Int × Int × Unit) : Option (((List S4) × (List Int) × (List Int) × (List Int) × (S2 × Unit) × (S4 × Unit) × Int × (List S4) × Int × Int × Unit) ⊕ (((List S4) × (List Int) × (List Int) × (List Int) × (S2 × Unit) × (List S4) × Int × Int × Unit) ⊕ (Bool × Unit))) :=
 let guards46 := x.1
 let taken47 := x.2.1
 let before48 := x.2.2.1
 let behind49 := x.2.2.2.1
 let r50 := x.2.2.2.2.2.2.1
 let v51 := x.2.2.2.2.2.2.2.1
 let v52 := x.2.2.2.2.2.2.2.2.1
 let v53 := x.2.2.2.2.2.2.2.2.2.1
 bif (blt r50 x.2.2.2.2.2.1.1.2.1) then (
  bif (inR r50 (before48.length : Int)) then (
   bif (inR r50 (behind49.length : Int)) then (
    bif (bne (before48.getD r50.toNat (0 : Int)) (behind49.getD r50.toNat (0 : Int))) then some (.inr (.inr (false, ())))
    else some (.inl (guards46, taken47, before48, behind49, (x.2.2.2.2.1.1, ()), (x.2.2.2.2.2.1.1, ()), (wr (r50 + (1 : Int))), v51, v52, v53, ())))
   else none)
  else none)
 else some (.inr (.inl (guards46, taken47, before48, behind49, (x.2.2.2.2.1.1, ()), v51, v52, v53, ())))
def sh118_8 : Sh := ⟨[1, 2, 3, 4, 5, 16, 17, 18], [.val (.row Y24), .val (.row (.int .i64)), .val (.row (.int .i64)), .val (.row (.int .i64)), .box 118 [.sc Y2] 0, .val (.row Y24), .val (.int .i64), .val (.int .i64)], []⟩
def outs118_8 : List (Ex × Sh) := [((.exit 0), ⟨[], [], []⟩), (.ret, ⟨[10], [.val .bool], []⟩)]
noncomputable def f118_8 (x : (List S4) × (List Int) × (List Int) × (List Int) × (S2 × Unit) × (List S4) × Int × Int × Unit) : Option (((List S4) × (List Int) × (List Int) × (List Int) × (S2 × Unit) × (List S4) × Int × Int × Unit) ⊕ ((Unit) ⊕ (Bool × Unit))) :=
 let guards7 := x.1
 let taken8 := x.2.1
 let before9 := x.2.2.1
 let behind10 := x.2.2.2.1
 let v11 := x.2.2.2.2.2.1
 let v12 := x.2.2.2.2.2.2.1
 let v13 := x.2.2.2.2.2.2.2.1
 bif (blt v13 v12) then (
  bif (inR v13 (v11.length : Int)) then (
   bif (!(v11.getD v13.toNat (false, (0 : Int), (0 : Int))).1) then (
    some (.inl (guards7, taken8, before9, behind10, (x.2.2.2.2.1.1, ()), v11, v12, (wr (v13 + (1 : Int))), ())))
   else (
    (loopF f118_24 (guards7, taken8, before9, behind10, (x.2.2.2.2.1.1, ()), v13, ((v11.getD v13.toNat (false, (0 : Int), (0 : Int))), ()), v11, v12, v13, taken8, (taken8.length : Int), (0 : Int), ())).bind fun y73 => match y73 with
     | .inl z34 => (
      let guards35 := z34.1
      let taken36 := z34.2.1
      let before37 := z34.2.2.1
      let behind38 := z34.2.2.2.1
      let v40 := z34.2.2.2.2.2.2.2.1
      let v41 := z34.2.2.2.2.2.2.2.2.1
      let v42 := z34.2.2.2.2.2.2.2.2.2.1
      bif ((beq z34.2.2.2.2.1.1.1 (32 : Int)) && (beq z34.2.2.2.2.2.1 (wr ((guards35.length : Int) - (1 : Int))))) then (
       some (.inl (guards35, taken36, before37, behind38, (z34.2.2.2.2.1.1, ()), v40, v41, (wr (v42 + (1 : Int))), ())))
      else (
       (loopF f118_52 (guards35, taken36, before37, behind38, (z34.2.2.2.2.1.1, ()), (z34.2.2.2.2.2.2.1.1, ()), (0 : Int), v40, v41, v42, ())).bind fun y70 => match y70 with
        | .inl z59 => (
         some (.inl (z59.1, z59.2.1, z59.2.2.1, z59.2.2.2.1, (z59.2.2.2.2.1.1, ()), z59.2.2.2.2.2.1, z59.2.2.2.2.2.2.1, (wr (z59.2.2.2.2.2.2.2.1 + (1 : Int))), ())))
        | .inr z68 => (
         some (.inr (.inr (z68.1, ()))))))
     | .inr z71 => (
      some (.inr (.inr (z71.1, ()))))))
  else none)
 else some (.inr (.inl ()))
def ps118 : List VS := [.val Y2, .val (.row Y24), .val (.row (.int .i64)), .val (.row (.int .i64)), .val (.row (.int .i64))]
def rs118 : List VS := [.val .bool]
noncomputable def f118 (x : S2 × (List S4) × (List Int) × (List Int) × (List Int) × Unit) : Option ((Bool × Unit) × (Unit)) :=
 let guards2 := x.2.1
 (loopF f118_8 (guards2, x.2.2.1, x.2.2.2.1, x.2.2.2.2.1, (x.1, ()), guards2, (guards2.length : Int), (0 : Int), ())).bind fun y77 => match y77 with
  | .inl _ => (
   some ((true, ()), ()))
  | .inr z75 => (
   some ((z75.1, ()), ()))
/-! ### loop.example/loom/spec.l3followers -/
def sh119_84 : Sh := ⟨[7, 11, 12, 15, 16], [.box 198 [.sc Y25] 0, .box 118 [.sc Y2] 0, .own 210 Y32, .own 3 (.int .i64), .val (.int .i64)], []⟩
def outs119_84 : List (Ex × Sh) := [((.exit 1), ⟨[7, 11, 12, 15], [.box 198 [.sc Y25] 0, .box 118 [.sc Y2] 0, .own 210 Y32, .own 3 (.int .i64)], []⟩)]
noncomputable def f119_84 (x : (S6 × Unit) × (S2 × Unit) × (List S5) × (List Int) × Int × Unit) : Option (((S6 × Unit) × (S2 × Unit) × (List S5) × (List Int) × Int × Unit) ⊕ ((S6 × Unit) × (S2 × Unit) × (List S5) × (List Int) × Unit)) :=
 let out35 := x.2.2.1
 let t36 := x.2.2.2.1
 let r37 := x.2.2.2.2.1
 bif (blt r37 (t36.length : Int)) then (
  bif (inR r37 (t36.length : Int)) then (
   some (.inl ((x.1.1, ()), (x.2.1.1, ()), out35, (t36.set r37.toNat (0 : Int)), (wr (r37 + (1 : Int))), ())))
  else none)
 else some (.inr ((x.1.1, ()), (x.2.1.1, ()), out35, t36, ()))
def ps119 : List VS := [.val Y4, .val (.int .i64), .val Y25, .val (.row (.int .i64)), .val (.row Y24)]
def rs119 : List VS := [.own 210 Y32]
noncomputable def f119 (x : S9 × Int × S6 × (List Int) × (List S4) × Unit) : Option (((List S5) × Unit) × (Unit)) :=
 let f1 := x.1
 let at2 := x.2.1
 let before3 := x.2.2.1
 let types4 := x.2.2.2.1
 let guards5 := x.2.2.2.2.1
 bif (inR at2 (f1.2.2.2.2.2.2.2.1.length : Int)) then (
  bif (((bne (f1.2.2.2.2.2.2.2.1.getD at2.toNat ((0 : Int), (0 : Int), (0 : Int), (0 : Int), (0 : Int))).1 (19 : Int)) && (bne (f1.2.2.2.2.2.2.2.1.getD at2.toNat ((0 : Int), (0 : Int), (0 : Int), (0 : Int), (0 : Int))).1 (29 : Int))) && (bne (f1.2.2.2.2.2.2.2.1.getD at2.toNat ((0 : Int), (0 : Int), (0 : Int), (0 : Int), (0 : Int))).1 (30 : Int))) then (
   let row11 := ([((wr (at2 + (1 : Int))), true, types4, guards5)])
   bif (nle (([] : List S5).length + row11.length) 2199023255552) then (
    let row12 := (([] : List S5) ++ row11)
    let v13 := (f1.2.2.2.2.2.2.2.1.getD at2.toNat ((0 : Int), (0 : Int), (0 : Int), (0 : Int), (0 : Int))).1
    bif (beq v13 (19 : Int)) then (
     let row16 := ([((f1.2.2.2.2.2.2.2.1.getD at2.toNat ((0 : Int), (0 : Int), (0 : Int), (0 : Int), (0 : Int))).2.1, true, types4, guards5)])
     bif (nle (row12.length + row16.length) 2199023255552) then some (((row12 ++ row16), ()), ())
     else none)
    else bif ((beq v13 (20 : Int)) || ((beq v13 (21 : Int)) || ((beq v13 (38 : Int)) || (beq v13 (39 : Int))))) then (
     let row21 := ([((f1.2.2.2.2.2.2.2.1.getD at2.toNat ((0 : Int), (0 : Int), (0 : Int), (0 : Int), (0 : Int))).2.2.1, true, types4, guards5)])
     bif (nle (row12.length + row21.length) 2199023255552) then some (((row12 ++ row21), ()), ())
     else none)
    else bif (beq v13 (41 : Int)) then (
     (f114 (types4, ())).bind fun r24 =>
     let v25 := (f1.2.2.2.2.2.2.2.1.getD at2.toNat ((0 : Int), (0 : Int), (0 : Int), (0 : Int), (0 : Int))).2.2.2.1
     let v26 := (f1.2.2.2.2.2.2.2.1.getD at2.toNat ((0 : Int), (0 : Int), (0 : Int), (0 : Int), (0 : Int))).2.2.2.1
     bif (inR v26 (before3.2.1.length : Int)) then (
      bif (inR v25 (r24.1.1.length : Int)) then (
       let row30 := ([((f1.2.2.2.2.2.2.2.1.getD at2.toNat ((0 : Int), (0 : Int), (0 : Int), (0 : Int), (0 : Int))).2.2.1, true, (r24.1.1.set v25.toNat (before3.2.1.getD v26.toNat (0 : Int))), guards5)])
       bif (nle (row12.length + row30.length) 2199023255552) then some (((row12 ++ row30), ()), ())
       else none)
      else none)
     else none)
    else bif (beq v13 (31 : Int)) then (
     (f114 (before3.2.1, ())).bind fun r33 =>
     (loopF f119_84 ((before3, ()), ((f1.2.2.2.2.2.2.2.1.getD at2.toNat ((0 : Int), (0 : Int), (0 : Int), (0 : Int), (0 : Int))), ()), row12, r33.1.1, (f1.2.2.2.2.2.2.2.1.getD at2.toNat ((0 : Int), (0 : Int), (0 : Int), (0 : Int), (0 : Int))).2.2.1, ())).bind fun z42 =>
     let out43 := z42.2.2.1
     let t44 := z42.2.2.2.1
     bif (inR z42.2.1.1.2.2.1 (t44.length : Int)) then (
      let row45 := (t44.set z42.2.1.1.2.2.1.toNat (1 : Int))
      let v46 := (wr (z42.2.1.1.2.2.1 + (1 : Int)))
      bif (inR v46 (row45.length : Int)) then (
       let row48 := ([(z42.2.1.1.2.1, true, (row45.set v46.toNat (1 : Int)), z42.1.1.2.2)])
       bif (nle (out43.length + row48.length) 2199023255552) then some (((out43 ++ row48), ()), ())
       else none)
      else none)
     else none)
    else some ((row12, ()), ()))
   else none)
  else (
   let v50 := (f1.2.2.2.2.2.2.2.1.getD at2.toNat ((0 : Int), (0 : Int), (0 : Int), (0 : Int), (0 : Int))).1
   bif (beq v50 (19 : Int)) then (
    let row53 := ([((f1.2.2.2.2.2.2.2.1.getD at2.toNat ((0 : Int), (0 : Int), (0 : Int), (0 : Int), (0 : Int))).2.1, true, types4, guards5)])
    bif (nle (([] : List S5).length + row53.length) 2199023255552) then some (((([] : List S5) ++ row53), ()), ())
    else none)
   else bif ((beq v50 (20 : Int)) || ((beq v50 (21 : Int)) || ((beq v50 (38 : Int)) || (beq v50 (39 : Int))))) then (
    let row58 := ([((f1.2.2.2.2.2.2.2.1.getD at2.toNat ((0 : Int), (0 : Int), (0 : Int), (0 : Int), (0 : Int))).2.2.1, true, types4, guards5)])
    bif (nle (([] : List S5).length + row58.length) 2199023255552) then some (((([] : List S5) ++ row58), ()), ())
    else none)
   else bif (beq v50 (41 : Int)) then (
    (f114 (types4, ())).bind fun r61 =>
    let v62 := (f1.2.2.2.2.2.2.2.1.getD at2.toNat ((0 : Int), (0 : Int), (0 : Int), (0 : Int), (0 : Int))).2.2.2.1
    let v63 := (f1.2.2.2.2.2.2.2.1.getD at2.toNat ((0 : Int), (0 : Int), (0 : Int), (0 : Int), (0 : Int))).2.2.2.1
    bif (inR v63 (before3.2.1.length : Int)) then (
     bif (inR v62 (r61.1.1.length : Int)) then (
      let row67 := ([((f1.2.2.2.2.2.2.2.1.getD at2.toNat ((0 : Int), (0 : Int), (0 : Int), (0 : Int), (0 : Int))).2.2.1, true, (r61.1.1.set v62.toNat (before3.2.1.getD v63.toNat (0 : Int))), guards5)])
      bif (nle (([] : List S5).length + row67.length) 2199023255552) then some (((([] : List S5) ++ row67), ()), ())
      else none)
     else none)
    else none)
   else bif (beq v50 (31 : Int)) then (
    (f114 (before3.2.1, ())).bind fun r70 =>
    (loopF f119_84 ((before3, ()), ((f1.2.2.2.2.2.2.2.1.getD at2.toNat ((0 : Int), (0 : Int), (0 : Int), (0 : Int), (0 : Int))), ()), ([] : List S5), r70.1.1, (f1.2.2.2.2.2.2.2.1.getD at2.toNat ((0 : Int), (0 : Int), (0 : Int), (0 : Int), (0 : Int))).2.2.1, ())).bind fun z72 =>
    let out73 := z72.2.2.1
    let t74 := z72.2.2.2.1
    bif (inR z72.2.1.1.2.2.1 (t74.length : Int)) then (
     let row75 := (t74.set z72.2.1.1.2.2.1.toNat (1 : Int))
     let v76 := (wr (z72.2.1.1.2.2.1 + (1 : Int)))
     bif (inR v76 (row75.length : Int)) then (
      let row78 := ([(z72.2.1.1.2.1, true, (row75.set v76.toNat (1 : Int)), z72.1.1.2.2)])
      bif (nle (out73.length + row78.length) 2199023255552) then some (((out73 ++ row78), ()), ())
      else none)
     else none)
    else none)
   else some ((([] : List S5), ()), ())))
 else none
/-! ### loop.example/loom/spec.l3same -/
def sh121_16 : Sh := ⟨[2, 3, 25, 26], [.box 198 [.sc Y25] 0, .box 198 [.sc Y25] 0, .val (.int .i64), .val (.int .i64)], []⟩
def outs121_16 : List (Ex × Sh) := [((.exit 0), ⟨[2, 3], [.box 198 [.sc Y25] 0, .box 198 [.sc Y25] 0], []⟩), (.ret, ⟨[4], [.val .bool], []⟩)]
noncomputable def f121_16 (x : (S6 × Unit) × (S6 × Unit) × Int × Int × Unit) : Option (((S6 × Unit) × (S6 × Unit) × Int × Int × Unit) ⊕ (((S6 × Unit) × (S6 × Unit) × Unit) ⊕ (Bool × Unit))) :=
 let v8 := x.2.2.1
 let v9 := x.2.2.2.1
 bif (blt v9 v8) then (
  bif (inR v9 (x.1.1.2.1.length : Int)) then (
   bif (inR v9 (x.2.1.1.2.1.length : Int)) then (
    bif (bne (x.1.1.2.1.getD v9.toNat (0 : Int)) (x.2.1.1.2.1.getD v9.toNat (0 : Int))) then some (.inr (.inr (false, ())))
    else some (.inl ((x.1.1, ()), (x.2.1.1, ()), v8, (wr (v9 + (1 : Int))), ())))
   else none)
  else none)
 else some (.inr (.inl ((x.1.1, ()), (x.2.1.1, ()), ())))
def sh121_40 : Sh := ⟨[2, 3, 43, 44], [.box 198 [.sc Y25] 0, .box 198 [.sc Y25] 0, .val (.int .i64), .val (.int .i64)], []⟩
def outs121_40 : List (Ex × Sh) := [((.exit 2), ⟨[], [], []⟩), (.ret, ⟨[4], [.val .bool], []⟩)]
noncomputable def f121_40 (x : (S6 × Unit) × (S6 × Unit) × Int × Int × Unit) : Option (((S6 × Unit) × (S6 × Unit) × Int × Int × Unit) ⊕ ((Unit) ⊕ (Bool × Unit))) :=
 let v17 := x.2.2.1
 let v18 := x.2.2.2.1
 bif (blt v18 v17) then (
  bif (inR v18 (x.1.1.2.2.length : Int)) then (
   bif (inR v18 (x.2.1.1.2.2.length : Int)) then (
    bif (!((beqB (x.1.1.2.2.getD v18.toNat (false, (0 : Int), (0 : Int))).1 (x.2.1.1.2.2.getD v18.toNat (false, (0 : Int), (0 : Int))).1) && ((beq (x.1.1.2.2.getD v18.toNat (false, (0 : Int), (0 : Int))).2.1 (x.2.1.1.2.2.getD v18.toNat (false, (0 : Int), (0 : Int))).2.1) && ((beq (x.1.1.2.2.getD v18.toNat (false, (0 : Int), (0 : Int))).2.2 (x.2.1.1.2.2.getD v18.toNat (false, (0 : Int), (0 : Int))).2.2) && true)))) then some (.inr (.inr (false, ())))
    else some (.inl ((x.1.1, ()), (x.2.1.1, ()), v17, (wr (v18 + (1 : Int))), ())))
   else none)
  else none)
 else some (.inr (.inl ()))
def ps121 : List VS := [.val Y25, .val Y25]
def rs121 : List VS := [.val .bool]
noncomputable def f121 (x : S6 × S6 × Unit) : Option ((Bool × Unit) × (Unit)) :=
 let a1 := x.1
 let b2 := x.2.1
 bif ((bne (a1.2.1.length : Int) (b2.2.1.length : Int)) || (bne (a1.2.2.length : Int) (b2.2.2.length : Int))) then some ((false, ()), ())
 else (
  (loopF f121_16 ((a1, ()), (b2, ()), (a1.2.1.length : Int), (0 : Int), ())).bind fun y28 => match y28 with
   | .inl z15 => (
    (loopF f121_40 ((z15.1.1, ()), (z15.2.1.1, ()), (z15.1.1.2.2.length : Int), (0 : Int), ())).bind fun y25 => match y25 with
     | .inl _ => (
      some ((true, ()), ()))
     | .inr z23 => (
      some ((z23.1, ()), ())))
   | .inr z26 => (
    some ((z26.1, ()), ())))
/-! ### loop.example/loom/spec.l3walk -/
def sh63_24 : Sh := ⟨[1, 2, 5, 6, 7, 8, 9, 10], [.val (.int .i64), .box 32 [.sc Y5] 0, .box 64 [.sc Y23] 0, .box 71 [.sc Y4] 0, .own 198 Y25, .own 4 .bool, .own 3 (.int .i64), .val (.int .i64)], []⟩
def outs63_24 : List (Ex × Sh) := [((.exit 0), ⟨[1, 2, 5, 6, 7, 8, 9], [.val (.int .i64), .box 32 [.sc Y5] 0, .box 64 [.sc Y23] 0, .box 71 [.sc Y4] 0, .own 198 Y25, .own 4 .bool, .own 3 (.int .i64)], []⟩)]
noncomputable def f63_24 (x : Int × (S25 × Unit) × (S26 × Unit) × (S9 × Unit) × (List S6) × (List Bool) × (List Int) × Int × Unit) : Option ((Int × (S25 × Unit) × (S26 × Unit) × (S9 × Unit) × (List S6) × (List Bool) × (List Int) × Int × Unit) ⊕ (Int × (S25 × Unit) × (S26 × Unit) × (S9 × Unit) × (List S6) × (List Bool) × (List Int) × Unit)) :=
 let o11 := x.1
 let v12 := x.2.2.2.2.1
 let v13 := x.2.2.2.2.2.1
 let v14 := x.2.2.2.2.2.2.1
 let v15 := x.2.2.2.2.2.2.2.1
 bif (blt v15 x.2.2.2.1.1.2.2.1) then (
  bif (inR v15 (v14.length : Int)) then (
   some (.inl (o11, (x.2.1.1, ()), (x.2.2.1.1, ()), (x.2.2.2.1.1, ()), v12, v13, (v14.set v15.toNat (1 : Int)), (wr (v15 + (1 : Int))), ())))
  else none)
 else some (.inr (o11, (x.2.1.1, ()), (x.2.2.1.1, ()), (x.2.2.2.1.1, ()), v12, v13, v14, ()))
def sh63_56 : Sh := ⟨[1, 2, 5, 6, 7, 8, 11], [.val (.int .i64), .box 32 [.sc Y5] 0, .box 64 [.sc Y23] 0, .box 71 [.sc Y4] 0, .own 198 Y25, .own 4 .bool, .val (.int .i64)], []⟩
def outs63_56 : List (Ex × Sh) := [((.exit 4), ⟨[1, 2, 5, 6, 7, 8, 11], [.val (.int .i64), .box 32 [.sc Y5] 0, .box 64 [.sc Y23] 0, .box 71 [.sc Y4] 0, .own 198 Y25, .own 4 .bool, .val (.int .i64)], []⟩)]
noncomputable def f63_56 (x : Int × (S25 × Unit) × (S26 × Unit) × (S9 × Unit) × (List S6) × (List Bool) × Int × Unit) : Option ((Int × (S25 × Unit) × (S26 × Unit) × (S9 × Unit) × (List S6) × (List Bool) × Int × Unit) ⊕ (Int × (S25 × Unit) × (S26 × Unit) × (S9 × Unit) × (List S6) × (List Bool) × Int × Unit)) :=
 let o30 := x.1
 let v31 := x.2.2.2.2.1
 let v32 := x.2.2.2.2.2.1
 let v33 := x.2.2.2.2.2.2.1
 (joinB (blt v33 (v32.length : Int)) (bif (inR v33 (v32.length : Int)) then (some (!(v32.getD v33.toNat false))) else none) (some false)).bind fun c36 =>
 bif c36 then (
  some (.inl (o30, (x.2.1.1, ()), (x.2.2.1.1, ()), (x.2.2.2.1.1, ()), v31, v32, (wr (v33 + (1 : Int))), ())))
 else some (.inr (o30, (x.2.1.1, ()), (x.2.2.1.1, ()), (x.2.2.2.1.1, ()), v31, v32, v33, ()))
def sh63_72 : Sh := ⟨[1, 5, 6, 7, 75, 76], [.val (.int .i64), .box 64 [.sc Y23] 0, .box 71 [.sc Y4] 0, .own 198 Y25, .val (.int .i64), .val (.int .i64)], []⟩
def outs63_72 : List (Ex × Sh) := [((.exit 6), ⟨[5, 7], [.box 64 [.sc Y23] 0, .own 198 Y25], []⟩), (.ret, ⟨[4, 5], [.own 198 Y25, .box 64 [.sc Y23] 0], []⟩)]
noncomputable def f63_72 (x : Int × (S26 × Unit) × (S9 × Unit) × (List S6) × Int × Int × Unit) : Option ((Int × (S26 × Unit) × (S9 × Unit) × (List S6) × Int × Int × Unit) ⊕ (((S26 × Unit) × (List S6) × Unit) ⊕ ((List S6) × (S26 × Unit) × Unit))) :=
 let o46 := x.1
 let v47 := x.2.2.2.1
 let v48 := x.2.2.2.2.1
 let v49 := x.2.2.2.2.2.1
 bif (blt v49 v48) then (
  bif (inR v49 (v47.length : Int)) then (
   (joinB (v47.getD v49.toNat (false, ([] : List Int), ([] : List S4))).1 ((f113 (x.2.2.1.1, v49, ())).bind fun r52 => (some r52.1.1)) (some false)).bind fun c53 =>
   bif c53 then (
    (f112 ((14 : Int), o46, v49, ())).bind fun r54 =>
    some (.inr (.inr (([] : List S6), (r54.1.1, ()), ()))))
   else some (.inl (o46, (x.2.1.1, ()), (x.2.2.1.1, ()), v47, v48, (wr (v49 + (1 : Int))), ())))
  else none)
 else some (.inr (.inl ((x.2.1.1, ()), v47, ())))
def sh63_148 : Sh := ⟨[1, 2, 5, 6, 7, 8, 166, 167, 168], [.val (.int .i64), .box 32 [.sc Y5] 0, .box 64 [.sc Y23] 0, .box 71 [.sc Y4] 0, .own 198 Y25, .own 4 .bool, .own 210 Y32, .val (.int .i64), .val (.int .i64)], []⟩
def outs63_148 : List (Ex × Sh) := [((.exit 8), ⟨[1, 2, 5, 6, 7, 8], [.val (.int .i64), .box 32 [.sc Y5] 0, .box 64 [.sc Y23] 0, .box 71 [.sc Y4] 0, .own 198 Y25, .own 4 .bool], []⟩), (.ret, ⟨[4, 5], [.own 198 Y25, .box 64 [.sc Y23] 0], []⟩)]
noncomputable def f63_148 (x : Int × (S25 × Unit) × (S26 × Unit) × (S9 × Unit) × (List S6) × (List Bool) × (List S5) × Int × Int × Unit) : Option ((Int × (S25 × Unit) × (S26 × Unit) × (S9 × Unit) × (List S6) × (List Bool) × (List S5) × Int × Int × Unit) ⊕ ((Int × (S25 × Unit) × (S26 × Unit) × (S9 × Unit) × (List S6) × (List Bool) × Unit) ⊕ ((List S6) × (S26 × Unit) × Unit))) :=
 let o79 := x.1
 let v80 := x.2.2.2.2.1
 let v81 := x.2.2.2.2.2.1
 let v82 := x.2.2.2.2.2.2.1
 let v83 := x.2.2.2.2.2.2.2.1
 let v84 := x.2.2.2.2.2.2.2.2.1
 bif (blt v84 v83) then (
  bif (inR v84 (v82.length : Int)) then (
   let v86 := (v82.getD v84.toNat ((0 : Int), false, ([] : List Int), ([] : List S4))).1
   bif (inR v86 (v80.length : Int)) then (
    bif (!(v80.getD v86.toNat (false, ([] : List Int), ([] : List S4))).1) then (
     let v89 := (v82.getD v84.toNat ((0 : Int), false, ([] : List Int), ([] : List S4))).1
     (f114 ((v82.getD v84.toNat ((0 : Int), false, ([] : List Int), ([] : List S4))).2.2.1, ())).bind fun r91 =>
     (f120 ((v82.getD v84.toNat ((0 : Int), false, ([] : List Int), ([] : List S4))).2.2.2, ())).bind fun r93 =>
     bif (inR v89 (v80.length : Int)) then (
      let v95 := (v82.getD v84.toNat ((0 : Int), false, ([] : List Int), ([] : List S4))).1
      bif (inR v95 (v81.length : Int)) then (
       some (.inl (o79, (x.2.1.1, ()), (x.2.2.1.1, ()), (x.2.2.2.1.1, ()), (v80.set v89.toNat (true, r91.1.1, r93.1.1)), (v81.set v95.toNat true), v82, v83, (wr (v84 + (1 : Int))), ())))
      else none)
     else none)
    else (
     let v98 := (v82.getD v84.toNat ((0 : Int), false, ([] : List Int), ([] : List S4))).1
     bif (inR v98 (v80.length : Int)) then (
      (f121 ((v80.getD v98.toNat (false, ([] : List Int), ([] : List S4))), (v82.getD v84.toNat ((0 : Int), false, ([] : List Int), ([] : List S4))).2, ())).bind fun r99 =>
      bif (!r99.1.1) then (
       (f112 ((13 : Int), o79, (v82.getD v84.toNat ((0 : Int), false, ([] : List Int), ([] : List S4))).1, ())).bind fun r102 =>
       some (.inr (.inr (([] : List S6), (r102.1.1, ()), ()))))
      else some (.inl (o79, (x.2.1.1, ()), (x.2.2.1.1, ()), (x.2.2.2.1.1, ()), v80, v81, v82, v83, (wr (v84 + (1 : Int))), ())))
     else none))
   else none)
  else none)
 else some (.inr (.inl (o79, (x.2.1.1, ()), (x.2.2.1.1, ()), (x.2.2.2.1.1, ()), v80, v81, ())))
def sh63_52 : Sh := ⟨[1, 2, 5, 6, 7, 8], [.val (.int .i64), .box 32 [.sc Y5] 0, .box 64 [.sc Y23] 0, .box 71 [.sc Y4] 0, .own 198 Y25, .own 4 .bool], []⟩
def outs63_52 : List (Ex × Sh) := [(.ret, ⟨[4, 5], [.own 198 Y25, .box 64 [.sc Y23] 0], []⟩)]
noncomputable def f63_52 (x : Int × (S25 × Unit) × (S26 × Unit) × (S9 × Unit) × (List S6) × (List Bool) × Unit) : Option ((Int × (S25 × Unit) × (S26 × Unit) × (S9 × Unit) × (List S6) × (List Bool) × Unit) ⊕ ((List S6) × (S26 × Unit) × Unit)) :=
 (loopF f63_56 (x.1, (x.2.1.1, ()), (x.2.2.1.1, ()), (x.2.2.2.1.1, ()), x.2.2.2.2.1, x.2.2.2.2.2.1, (0 : Int), ())).bind fun z38 =>
 let o39 := z38.1
 let v40 := z38.2.2.2.2.1
 let v41 := z38.2.2.2.2.2.1
 let v42 := z38.2.2.2.2.2.2.1
 bif (beq v42 (v41.length : Int)) then (
  (loopF f63_72 (o39, (z38.2.2.1.1, ()), (z38.2.2.2.1.1, ()), v40, (v40.length : Int), (0 : Int), ())).bind fun y60 => match y60 with
   | .inl z56 => (
    some (.inr (z56.2.1, (((0 : Int), (0 : Int), (0 : Int)), ()), ())))
   | .inr z58 => (
    some (.inr (z58.1, (z58.2.1.1, ()), ()))))
 else bif (inR v42 (v41.length : Int)) then (
  bif (inR v42 (z38.2.2.2.1.1.2.2.2.2.2.2.2.1.length : Int)) then (
   bif (inR v42 (v40.length : Int)) then (
    (f114 ((v40.getD v42.toNat (false, ([] : List Int), ([] : List S4))).2.1, ())).bind fun r63 =>
    (f115 (z38.2.1.1, o39, (z38.2.2.2.1.1.2.2.2.2.2.2.2.1.getD v42.toNat ((0 : Int), (0 : Int), (0 : Int), (0 : Int), (0 : Int))), r63.1.1, ())).bind fun r64 =>
    bif (!r64.1.2.1) then (
     (f112 ((10 : Int), o39, v42, ())).bind fun r66 =>
     some (.inr (([] : List S6), (r66.1.1, ()), ())))
    else bif (inR v42 (v40.length : Int)) then (
     (f116 ((z38.2.2.2.1.1.2.2.2.2.2.2.2.1.getD v42.toNat ((0 : Int), (0 : Int), (0 : Int), (0 : Int), (0 : Int))), (v40.getD v42.toNat (false, ([] : List Int), ([] : List S4))).2.2, ())).bind fun r68 =>
     bif (!r68.1.2.1) then (
      (f112 ((11 : Int), o39, v42, ())).bind fun r70 =>
      some (.inr (([] : List S6), (r70.1.1, ()), ())))
     else (
      (f117 ((z38.2.2.2.1.1.2.2.2.2.2.2.2.1.getD v42.toNat ((0 : Int), (0 : Int), (0 : Int), (0 : Int), (0 : Int))), r64.2.1, ())).bind fun r71 =>
      bif (inR v42 (v40.length : Int)) then (
       bif (inR v42 (v40.length : Int)) then (
        (f118 ((z38.2.2.2.1.1.2.2.2.2.2.2.2.1.getD v42.toNat ((0 : Int), (0 : Int), (0 : Int), (0 : Int), (0 : Int))), (v40.getD v42.toNat (false, ([] : List Int), ([] : List S4))).2.2, r64.1.1, (v40.getD v42.toNat (false, ([] : List Int), ([] : List S4))).2.1, r71.2.1, ())).bind fun r74 =>
        bif (!r74.1.1) then (
         (f112 ((12 : Int), o39, v42, ())).bind fun r76 =>
         some (.inr (([] : List S6), (r76.1.1, ()), ())))
        else bif (inR v42 (v40.length : Int)) then (
         (f119 (z38.2.2.2.1.1, v42, (v40.getD v42.toNat (false, ([] : List Int), ([] : List S4))), r71.2.1, r68.1.1, ())).bind fun r77 =>
         (loopF f63_148 (o39, (z38.2.1.1, ()), (z38.2.2.1.1, ()), (z38.2.2.2.1.1, ()), v40, (v41.set v42.toNat false), r77.1.1, (r77.1.1.length : Int), (0 : Int), ())).bind fun y110 => match y110 with
          | .inl z104 => (
           some (.inl (z104.1, (z104.2.1.1, ()), (z104.2.2.1.1, ()), (z104.2.2.2.1.1, ()), z104.2.2.2.2.1, z104.2.2.2.2.2.1, ())))
          | .inr z108 => (
           some (.inr (z108.1, (z108.2.1.1, ()), ()))))
        else none)
       else none)
      else none))
    else none)
   else none)
  else none)
 else none
def ps63 : List VS := [.val Y5, .val (.int .i64)]
def rs63 : List VS := [.own 198 Y25, .val Y23]
noncomputable def f63 (x : S25 × Int × Unit) : Option (((List S6) × S26 × Unit) × (Unit)) :=
 let t1 := x.1
 let o2 := x.2.1
 bif (inR o2 (t1.length : Int)) then (
  let v4 := ((t1.getD o2.toNat ((⟨#[]⟩ : ByteArray), (0 : Int), (0 : Int), false, (0 : Int), ([] : List S0), ([] : List S1), ([] : List S2), ([] : List S3))).2.2.2.2.2.2.2.1.length : Int)
  bif (inE v4 ((5026338869833 : Nat) : Int)) then (
   let v7 := ((t1.getD o2.toNat ((⟨#[]⟩ : ByteArray), (0 : Int), (0 : Int), false, (0 : Int), ([] : List S0), ([] : List S1), ([] : List S2), ([] : List S3))).2.2.2.2.2.2.2.1.length : Int)
   bif (inE v7 ((281474976710656 : Nat) : Int)) then (
    let v9 := (t1.getD o2.toNat ((⟨#[]⟩ : ByteArray), (0 : Int), (0 : Int), false, (0 : Int), ([] : List S0), ([] : List S1), ([] : List S2), ([] : List S3))).2.2.2.2.1
    bif (inE v9 ((35184372088832 : Nat) : Int)) then (
     (loopF f63_24 (o2, (t1, ()), (((0 : Int), (0 : Int), (0 : Int)), ()), ((t1.getD o2.toNat ((⟨#[]⟩ : ByteArray), (0 : Int), (0 : Int), false, (0 : Int), ([] : List S0), ([] : List S1), ([] : List S2), ([] : List S3))), ()), (List.replicate v4.toNat (false, ([] : List Int), ([] : List S4))), (List.replicate v7.toNat false), (List.replicate v9.toNat (0 : Int)), (0 : Int), ())).bind fun z19 =>
     let o20 := z19.1
     let v21 := z19.2.2.2.2.1
     let v22 := z19.2.2.2.2.2.1
     let v23 := z19.2.2.2.2.2.2.1
     bif z19.2.2.2.1.1.2.2.2.1 then (
      bif (inR z19.2.2.2.1.1.2.2.1 (v23.length : Int)) then (
       bif (inR (0 : Int) (v21.length : Int)) then (
        bif (inR (0 : Int) (v22.length : Int)) then (
         (loopF f63_52 (o20, (z19.2.1.1, ()), (z19.2.2.1.1, ()), (z19.2.2.2.1.1, ()), (v21.set (0 : Int).toNat (true, (v23.set z19.2.2.2.1.1.2.2.1.toNat (3 : Int)), ([] : List S4))), (v22.set (0 : Int).toNat true), ())).bind fun z111 =>
         some ((z111.1, z111.2.1.1, ()), ()))
        else none)
       else none)
      else none)
     else bif (inR (0 : Int) (v21.length : Int)) then (
      bif (inR (0 : Int) (v22.length : Int)) then (
       (loopF f63_52 (o20, (z19.2.1.1, ()), (z19.2.2.1.1, ()), (z19.2.2.2.1.1, ()), (v21.set (0 : Int).toNat (true, v23, ([] : List S4))), (v22.set (0 : Int).toNat true), ())).bind fun z115 =>
       some ((z115.1, z115.2.1.1, ()), ()))
      else none)
     else none)
    else none)
   else none)
  else none)
 else none
/-! ### loop.example/loom/spec.CheckCode -/
def sh24_20 : Sh := ⟨[1, 2, 15, 16], [.box 32 [.sc Y5] 0, .box 64 [.sc Y23] 0, .val (.int .i64), .val (.int .i64)], []⟩
def outs24_20 : List (Ex × Sh) := [((.exit 0), ⟨[2], [.box 64 [.sc Y23] 0], []⟩), (.ret, ⟨[2], [.box 64 [.sc Y23] 0], []⟩)]
noncomputable def f24_20 (x : (S25 × Unit) × (S26 × Unit) × Int × Int × Unit) : Option (((S25 × Unit) × (S26 × Unit) × Int × Int × Unit) ⊕ (((S26 × Unit) × Unit) ⊕ ((S26 × Unit) × Unit))) :=
 let v5 := x.2.2.1
 let v6 := x.2.2.2.1
 bif (blt v6 v5) then (
  (f63 (x.1.1, v6, ())).bind fun r8 =>
  bif (bne r8.1.2.1.1 (0 : Int)) then some (.inr (.inr ((r8.1.2.1, ()), ())))
  else some (.inl ((x.1.1, ()), (x.2.1.1, ()), v5, (wr (v6 + (1 : Int))), ())))
 else some (.inr (.inl ((x.2.1.1, ()), ())))
def ps24 : List VS := [.val Y5]
def rs24 : List VS := [.val Y23]
noncomputable def f24 (x : S25 × Unit) : Option ((S26 × Unit) × (Unit)) :=
 let c1 := x.1
 (f62 (c1, ())).bind fun r2 =>
 bif (bne r2.1.1.1 (0 : Int)) then some ((r2.1.1, ()), ())
 else (
  (loopF f24_20 ((c1, ()), (((0 : Int), (0 : Int), (0 : Int)), ()), (c1.length : Int), (0 : Int), ())).bind fun y13 => match y13 with
   | .inl _ => (
    some ((((0 : Int), (0 : Int), (0 : Int)), ()), ()))
   | .inr z12 => (
    some ((z12.1.1, ()), ())))
/-! ### loop.example/loom/spec.l6drops -/
def sh64_8 : Sh := ⟨[1, 2, 5], [.val (.int .i64), .box 71 [.sc Y4] 0, .val (.int .i64)], []⟩
def outs64_8 : List (Ex × Sh) := [((.exit 0), ⟨[5], [.val (.int .i64)], []⟩)]
noncomputable def f64_8 (x : Int × (S9 × Unit) × Int × Unit) : Option ((Int × (S9 × Unit) × Int × Unit) ⊕ (Int × Unit)) :=
 let i3 := x.1
 let n4 := x.2.2.1
 bif (blt (wr (i3 + n4)) (x.2.1.1.2.2.2.2.2.2.2.1.length : Int)) then (
  let v8 := (wr (i3 + n4))
  bif (inR v8 (x.2.1.1.2.2.2.2.2.2.2.1.length : Int)) then (
   bif (beq (x.2.1.1.2.2.2.2.2.2.2.1.getD v8.toNat ((0 : Int), (0 : Int), (0 : Int), (0 : Int), (0 : Int))).1 (42 : Int)) then (
    let v11 := (wr (i3 + n4))
    bif (inR v11 (x.2.1.1.2.2.2.2.2.2.2.1.length : Int)) then (
     bif (inR i3 (x.2.1.1.2.2.2.2.2.2.2.1.length : Int)) then (
      bif (beq (x.2.1.1.2.2.2.2.2.2.2.1.getD v11.toNat ((0 : Int), (0 : Int), (0 : Int), (0 : Int), (0 : Int))).2.1 (wr ((x.2.1.1.2.2.2.2.2.2.2.1.getD i3.toNat ((0 : Int), (0 : Int), (0 : Int), (0 : Int), (0 : Int))).2.1 + n4))) then some (.inl (i3, (x.2.1.1, ()), (wr (n4 + (1 : Int))), ()))
      else some (.inr (n4, ())))
     else none)
    else none)
   else some (.inr (n4, ())))
  else none)
 else some (.inr (n4, ()))
def ps64 : List VS := [.val Y4, .val (.int .i64)]
def rs64 : List VS := [.val (.int .i64)]
noncomputable def f64 (x : S9 × Int × Unit) : Option ((Int × Unit) × (Unit)) :=
 (loopF f64_8 (x.2.1, (x.1, ()), (0 : Int), ())).bind fun z17 =>
 some ((z17.1, ()), ())
/-! ### loop.example/loom/spec.l6two -/
def ps65 : List VS := [.val Y4, .val (.int .i64), .val (.int .i64)]
def rs65 : List VS := [.val Y6, .val .bool]
noncomputable def f65 (x : S9 × Int × Int × Unit) : Option ((S7 × Bool × Unit) × (Unit)) :=
 let t1 := x.1
 let o2 := x.2.1
 bif (ble (t1.2.2.2.2.2.2.2.1.length : Int) (wr (o2 + (1 : Int)))) then (
  some ((((0 : Int), (0 : Int), (0 : Int), (0 : Int), (0 : Int), (0 : Int), (0 : Int)), false, ()), ()))
 else bif (inR o2 (t1.2.2.2.2.2.2.2.1.length : Int)) then (
  let v7 := (wr (o2 + (1 : Int)))
  bif (inR v7 (t1.2.2.2.2.2.2.2.1.length : Int)) then (
   let v8 := (t1.2.2.2.2.2.2.2.1.getD o2.toNat ((0 : Int), (0 : Int), (0 : Int), (0 : Int), (0 : Int))).2.1
   bif ((((beq (t1.2.2.2.2.2.2.2.1.getD o2.toNat ((0 : Int), (0 : Int), (0 : Int), (0 : Int), (0 : Int))).1 (18 : Int)) && (ble (13 : Int) (t1.2.2.2.2.2.2.2.1.getD o2.toNat ((0 : Int), (0 : Int), (0 : Int), (0 : Int), (0 : Int))).2.2.1)) && ((beq (t1.2.2.2.2.2.2.2.1.getD v7.toNat ((0 : Int), (0 : Int), (0 : Int), (0 : Int), (0 : Int))).1 (20 : Int)) || (beq (t1.2.2.2.2.2.2.2.1.getD v7.toNat ((0 : Int), (0 : Int), (0 : Int), (0 : Int), (0 : Int))).1 (21 : Int)))) && (beq (t1.2.2.2.2.2.2.2.1.getD v7.toNat ((0 : Int), (0 : Int), (0 : Int), (0 : Int), (0 : Int))).2.1 (wr ((-1 : Int) - v8)))) then (
    let v14 := (t1.2.2.2.2.2.2.2.1.getD o2.toNat ((0 : Int), (0 : Int), (0 : Int), (0 : Int), (0 : Int))).2.2.1
    let v15 := (t1.2.2.2.2.2.2.2.1.getD o2.toNat ((0 : Int), (0 : Int), (0 : Int), (0 : Int), (0 : Int))).2.2.2.1
    let v16 := (t1.2.2.2.2.2.2.2.1.getD o2.toNat ((0 : Int), (0 : Int), (0 : Int), (0 : Int), (0 : Int))).2.2.2.2
    let v17 := (t1.2.2.2.2.2.2.2.1.getD v7.toNat ((0 : Int), (0 : Int), (0 : Int), (0 : Int), (0 : Int))).2.2.1
    bif (beq (t1.2.2.2.2.2.2.2.1.getD v7.toNat ((0 : Int), (0 : Int), (0 : Int), (0 : Int), (0 : Int))).1 (20 : Int)) then (
     some ((((43 : Int), v8, v14, v15, v16, v17, (1 : Int)), true, ()), ()))
    else some ((((43 : Int), v8, v14, v15, v16, v17, (0 : Int)), true, ()), ()))
   else bif (bne (t1.2.2.2.2.2.2.2.1.getD o2.toNat ((0 : Int), (0 : Int), (0 : Int), (0 : Int), (0 : Int))).1 (4 : Int)) then (
    some ((((0 : Int), (0 : Int), (0 : Int), (0 : Int), (0 : Int), (0 : Int), (0 : Int)), false, ()), ()))
   else bif ((((beq (t1.2.2.2.2.2.2.2.1.getD v7.toNat ((0 : Int), (0 : Int), (0 : Int), (0 : Int), (0 : Int))).1 (18 : Int)) && (beq (t1.2.2.2.2.2.2.2.1.getD v7.toNat ((0 : Int), (0 : Int), (0 : Int), (0 : Int), (0 : Int))).2.2.2.1 (wr ((-1 : Int) - v8)))) && (bne (t1.2.2.2.2.2.2.2.1.getD v7.toNat ((0 : Int), (0 : Int), (0 : Int), (0 : Int), (0 : Int))).2.2.2.2 v8)) && (bne (t1.2.2.2.2.2.2.2.1.getD v7.toNat ((0 : Int), (0 : Int), (0 : Int), (0 : Int), (0 : Int))).2.2.2.2 (wr ((-1 : Int) - v8)))) then (
    some ((((44 : Int), (t1.2.2.2.2.2.2.2.1.getD v7.toNat ((0 : Int), (0 : Int), (0 : Int), (0 : Int), (0 : Int))).2.1, (t1.2.2.2.2.2.2.2.1.getD v7.toNat ((0 : Int), (0 : Int), (0 : Int), (0 : Int), (0 : Int))).2.2.1, (t1.2.2.2.2.2.2.2.1.getD v7.toNat ((0 : Int), (0 : Int), (0 : Int), (0 : Int), (0 : Int))).2.2.2.2, (t1.2.2.2.2.2.2.2.1.getD o2.toNat ((0 : Int), (0 : Int), (0 : Int), (0 : Int), (0 : Int))).2.2.1, (1 : Int), v8), true, ()), ()))
   else bif ((((beq (t1.2.2.2.2.2.2.2.1.getD v7.toNat ((0 : Int), (0 : Int), (0 : Int), (0 : Int), (0 : Int))).1 (18 : Int)) && (beq (t1.2.2.2.2.2.2.2.1.getD v7.toNat ((0 : Int), (0 : Int), (0 : Int), (0 : Int), (0 : Int))).2.2.2.2 (wr ((-1 : Int) - v8)))) && (bne (t1.2.2.2.2.2.2.2.1.getD v7.toNat ((0 : Int), (0 : Int), (0 : Int), (0 : Int), (0 : Int))).2.2.2.1 v8)) && (bne (t1.2.2.2.2.2.2.2.1.getD v7.toNat ((0 : Int), (0 : Int), (0 : Int), (0 : Int), (0 : Int))).2.2.2.1 (wr ((-1 : Int) - v8)))) then (
    some ((((44 : Int), (t1.2.2.2.2.2.2.2.1.getD v7.toNat ((0 : Int), (0 : Int), (0 : Int), (0 : Int), (0 : Int))).2.1, (t1.2.2.2.2.2.2.2.1.getD v7.toNat ((0 : Int), (0 : Int), (0 : Int), (0 : Int), (0 : Int))).2.2.1, (t1.2.2.2.2.2.2.2.1.getD v7.toNat ((0 : Int), (0 : Int), (0 : Int), (0 : Int), (0 : Int))).2.2.2.1, (t1.2.2.2.2.2.2.2.1.getD o2.toNat ((0 : Int), (0 : Int), (0 : Int), (0 : Int), (0 : Int))).2.2.1, (0 : Int), v8), true, ()), ()))
   else (
    (joinB ((((beq (t1.2.2.2.2.2.2.2.1.getD v7.toNat ((0 : Int), (0 : Int), (0 : Int), (0 : Int), (0 : Int))).1 (15 : Int)) && (beq (t1.2.2.2.2.2.2.2.1.getD v7.toNat ((0 : Int), (0 : Int), (0 : Int), (0 : Int), (0 : Int))).2.2.2.1 (wr ((-1 : Int) - v8)))) && (bne (t1.2.2.2.2.2.2.2.1.getD v7.toNat ((0 : Int), (0 : Int), (0 : Int), (0 : Int), (0 : Int))).2.2.1 v8)) && (bne (t1.2.2.2.2.2.2.2.1.getD v7.toNat ((0 : Int), (0 : Int), (0 : Int), (0 : Int), (0 : Int))).2.2.1 (wr ((-1 : Int) - v8)))) (bif (inR (t1.2.2.2.2.2.2.2.1.getD o2.toNat ((0 : Int), (0 : Int), (0 : Int), (0 : Int), (0 : Int))).2.2.1 (t1.2.2.2.2.2.2.1.length : Int)) then (some (beq (t1.2.2.2.2.2.2.1.getD (t1.2.2.2.2.2.2.2.1.getD o2.toNat ((0 : Int), (0 : Int), (0 : Int), (0 : Int), (0 : Int))).2.2.1.toNat ((0 : Int), (0 : Int), (0 : Nat), (⟨#[]⟩ : ByteArray), (0 : Int))).1 (4 : Int))) else none) (some false)).bind fun c45 =>
    bif c45 then (
     some ((((45 : Int), (t1.2.2.2.2.2.2.2.1.getD v7.toNat ((0 : Int), (0 : Int), (0 : Int), (0 : Int), (0 : Int))).2.1, (t1.2.2.2.2.2.2.2.1.getD v7.toNat ((0 : Int), (0 : Int), (0 : Int), (0 : Int), (0 : Int))).2.2.1, (t1.2.2.2.2.2.2.2.1.getD o2.toNat ((0 : Int), (0 : Int), (0 : Int), (0 : Int), (0 : Int))).2.2.1, x.2.2.1, (0 : Int), v8), true, ()), ()))
    else some ((((0 : Int), (0 : Int), (0 : Int), (0 : Int), (0 : Int), (0 : Int), (0 : Int)), false, ()), ())))
  else none)
 else none
/-! ### loop.example/loom/spec.l6prepare -/
def sh25_28 : Sh := ⟨[2, 3, 5, 6, 14, 15, 16, 21, 22, 23], [.box 28 [.own 74 Y7, .sc (.int .i64)] 0, .box 28 [.own 74 Y7, .sc (.int .i64)] 0, .box 71 [.sc Y4] 0, .box 74 [.own 76 Y6] 0, .val (.row Y4), .val (.int .i64), .val (.int .i64), .val (.row Y2), .val (.int .i64), .val (.int .i64)], []⟩
def outs25_28 : List (Ex × Sh) := [((.exit 2), ⟨[2, 3, 6, 14, 15, 16], [.box 28 [.own 74 Y7, .sc (.int .i64)] 0, .box 28 [.own 74 Y7, .sc (.int .i64)] 0, .box 74 [.own 76 Y6] 0, .val (.row Y4), .val (.int .i64), .val (.int .i64)], []⟩)]
noncomputable def f25_28 (x : ((List S8) × Int × Unit) × ((List S8) × Int × Unit) × (S9 × Unit) × ((List S7) × Unit) × (List S9) × Int × Int × (List S2) × Int × Int × Unit) : Option ((((List S8) × Int × Unit) × ((List S8) × Int × Unit) × (S9 × Unit) × ((List S7) × Unit) × (List S9) × Int × Int × (List S2) × Int × Int × Unit) ⊕ (((List S8) × Int × Unit) × ((List S8) × Int × Unit) × ((List S7) × Unit) × (List S9) × Int × Int × Unit)) :=
 let v9 := x.2.2.2.2.1
 let v10 := x.2.2.2.2.2.1
 let v11 := x.2.2.2.2.2.2.1
 let v12 := x.2.2.2.2.2.2.2.1
 let v13 := x.2.2.2.2.2.2.2.2.1
 let v14 := x.2.2.2.2.2.2.2.2.2.1
 bif (blt v14 v13) then (
  bif (inR v14 (v12.length : Int)) then (
   (f64 (x.2.2.1.1, v14, ())).bind fun r21 =>
   (f65 (x.2.2.1.1, v14, x.2.1.2.1, ())).bind fun r22 =>
   bif (blt (1 : Int) r21.1.1) then (
    let row25 := ([((46 : Int), (v12.getD v14.toNat ((0 : Int), (0 : Int), (0 : Int), (0 : Int), (0 : Int))).2.1, r21.1.1, (0 : Int), (0 : Int), (0 : Int), (0 : Int))])
    bif (nle (x.2.2.2.1.1.length + row25.length) 2513169434916) then (
     some (.inl ((x.1.1, x.1.2.1, ()), (x.2.1.1, x.2.1.2.1, ()), (x.2.2.1.1, ()), ((x.2.2.2.1.1 ++ row25), ()), v9, v10, v11, v12, v13, (wr (v14 + (1 : Int))), ())))
    else none)
   else bif r22.1.2.1 then (
    bif (beq r22.1.1.1 (45 : Int)) then (
     bif (nle (x.2.2.2.1.1.length + ([r22.1.1]).length) 2513169434916) then (
      some (.inl ((x.1.1, x.1.2.1, ()), (x.2.1.1, (wr (x.2.1.2.1 + (1 : Int))), ()), (x.2.2.1.1, ()), ((x.2.2.2.1.1 ++ ([r22.1.1])), ()), v9, v10, v11, v12, v13, (wr (v14 + (1 : Int))), ())))
     else none)
    else bif (nle (x.2.2.2.1.1.length + ([r22.1.1]).length) 2513169434916) then (
     some (.inl ((x.1.1, x.1.2.1, ()), (x.2.1.1, x.2.1.2.1, ()), (x.2.2.1.1, ()), ((x.2.2.2.1.1 ++ ([r22.1.1])), ()), v9, v10, v11, v12, v13, (wr (v14 + (1 : Int))), ())))
    else none)
   else (
    let row36 := ([((v12.getD v14.toNat ((0 : Int), (0 : Int), (0 : Int), (0 : Int), (0 : Int))).1, (v12.getD v14.toNat ((0 : Int), (0 : Int), (0 : Int), (0 : Int), (0 : Int))).2.1, (v12.getD v14.toNat ((0 : Int), (0 : Int), (0 : Int), (0 : Int), (0 : Int))).2.2.1, (v12.getD v14.toNat ((0 : Int), (0 : Int), (0 : Int), (0 : Int), (0 : Int))).2.2.2.1, (v12.getD v14.toNat ((0 : Int), (0 : Int), (0 : Int), (0 : Int), (0 : Int))).2.2.2.2, (0 : Int), (0 : Int))])
    bif (nle (x.2.2.2.1.1.length + row36.length) 2513169434916) then (
     some (.inl ((x.1.1, x.1.2.1, ()), (x.2.1.1, x.2.1.2.1, ()), (x.2.2.1.1, ()), ((x.2.2.2.1.1 ++ row36), ()), v9, v10, v11, v12, v13, (wr (v14 + (1 : Int))), ())))
    else none))
  else none)
 else some (.inr ((x.1.1, x.1.2.1, ()), (x.2.1.1, x.2.1.2.1, ()), (x.2.2.2.1.1, ()), v9, v10, v11, ()))
def sh25_12 : Sh := ⟨[2, 3, 14, 15, 16], [.box 28 [.own 74 Y7, .sc (.int .i64)] 0, .box 28 [.own 74 Y7, .sc (.int .i64)] 0, .val (.row Y4), .val (.int .i64), .val (.int .i64)], []⟩
def outs25_12 : List (Ex × Sh) := [((.exit 0), ⟨[2, 3], [.box 28 [.own 74 Y7, .sc (.int .i64)] 0, .box 28 [.own 74 Y7, .sc (.int .i64)] 0], []⟩)]
noncomputable def f25_12 (x : ((List S8) × Int × Unit) × ((List S8) × Int × Unit) × (List S9) × Int × Int × Unit) : Option ((((List S8) × Int × Unit) × ((List S8) × Int × Unit) × (List S9) × Int × Int × Unit) ⊕ (((List S8) × Int × Unit) × ((List S8) × Int × Unit) × Unit)) :=
 let v3 := x.2.2.1
 let v4 := x.2.2.2.1
 let v5 := x.2.2.2.2.1
 bif (blt v5 v4) then (
  bif (inR v5 (v3.length : Int)) then (
   let v7 := (v3.getD v5.toNat ((⟨#[]⟩ : ByteArray), (0 : Int), (0 : Int), false, (0 : Int), ([] : List S0), ([] : List S1), ([] : List S2), ([] : List S3))).2.2.2.2.2.2.2.1
   (loopF f25_28 ((x.1.1, x.1.2.1, ()), (x.2.1.1, x.2.1.2.1, ()), ((v3.getD v5.toNat ((⟨#[]⟩ : ByteArray), (0 : Int), (0 : Int), false, (0 : Int), ([] : List S0), ([] : List S1), ([] : List S2), ([] : List S3))), ()), (([] : List S7), ()), v3, v4, v5, v7, (v7.length : Int), (0 : Int), ())).bind fun z39 =>
   let row43 := ([z39.2.2.1.1])
   bif (nle (z39.2.1.1.length + row43.length) 5864062014805) then (
    some (.inl ((z39.1.1, z39.1.2.1, ()), ((z39.2.1.1 ++ row43), z39.2.1.2.1, ()), z39.2.2.2.1, z39.2.2.2.2.1, (wr (z39.2.2.2.2.2.1 + (1 : Int))), ())))
   else none)
  else none)
 else some (.inr ((x.1.1, x.1.2.1, ()), (x.2.1.1, x.2.1.2.1, ()), ()))
def ps25 : List VS := [.val Y5]
def rs25 : List VS := [.rc [.own 74 Y7, .sc (.int .i64)]]
noncomputable def f25 (x : S25 × Unit) : Option ((((List S8) × Int × Unit) × Unit) × (Unit)) :=
 let c1 := x.1
 (loopF f25_12 ((([] : List S8), (0 : Int), ()), (([] : List S8), (0 : Int), ()), c1, (c1.length : Int), (0 : Int), ())).bind fun z46 =>
 some (((z46.2.1.1, z46.2.1.2.1, ()), ()), ())
/-! ### loop.example/loom/spec.Prepare -/
abbrev S27 := (List S8) × Int
def ps6 : List VS := [.val Y5]
def rs6 : List VS := [.val Y8]
noncomputable def f6 (x : S25 × Unit) : Option ((S27 × Unit) × (Unit)) :=
 let c1 := x.1
 (f24 (c1, ())).bind fun r2 =>
 bif (bne r2.1.1.1 (0 : Int)) then some (((([] : List S8), (0 : Int)), ()), ())
 else (
  (f25 (c1, ())).bind fun r4 =>
  some (((r4.1.1.1, r4.1.1.2.1), ()), ()))
/-! ### loop.example/loom/laws.toUp -/
def ps163 : List VS := [.val Y0]
def rs163 : List VS := [.val Y0]
noncomputable def f163 (x : S0 × Unit) : Option ((S0 × Unit) × (Unit)) :=
 some ((x.1, ()), ())
/-! ### loop.example/loom/laws.toUpS -/
def sh122_12 : Sh := ⟨[0, 3, 4], [.val (.row Y0), .own 224 Y0, .val (.int .i64)], []⟩
def outs122_12 : List (Ex × Sh) := [((.exit 0), ⟨[3], [.own 224 Y0], []⟩)]
noncomputable def f122_12 (x : (List S0) × (List S0) × Int × Unit) : Option (((List S0) × (List S0) × Int × Unit) ⊕ ((List S0) × Unit)) :=
 let a4 := x.1
 let out5 := x.2.1
 let i6 := x.2.2.1
 bif (blt i6 (a4.length : Int)) then (
  bif (inR i6 (a4.length : Int)) then (
   (f163 ((a4.getD i6.toNat (false, (0 : Int))), ())).bind fun r9 =>
   bif (inR i6 (out5.length : Int)) then (
    some (.inl (a4, (out5.set i6.toNat r9.1.1), (wr (i6 + (1 : Int))), ())))
   else none)
  else none)
 else some (.inr (out5, ()))
def ps122 : List VS := [.val (.row Y0)]
def rs122 : List VS := [.own 224 Y0]
noncomputable def f122 (x : (List S0) × Unit) : Option (((List S0) × Unit) × (Unit)) :=
 let a1 := x.1
 let v2 := (a1.length : Int)
 bif (inE v2 ((17592186044416 : Nat) : Int)) then (
  (loopF f122_12 (a1, (List.replicate v2.toNat (false, (0 : Int))), (0 : Int), ())).bind fun z12 =>
  some ((z12.1, ()), ()))
 else none
/-! ### loop.example/loom/laws.toValue -/
def ps164 : List VS := [.val Y1]
def rs164 : List VS := [.val Y1]
noncomputable def f164 (x : S1 × Unit) : Option ((S1 × Unit) × (Unit)) :=
 some ((x.1, ()), ())
/-! ### loop.example/loom/laws.toValueS -/
def sh123_12 : Sh := ⟨[0, 3, 4], [.val (.row Y1), .own 128 Y1, .val (.int .i64)], []⟩
def outs123_12 : List (Ex × Sh) := [((.exit 0), ⟨[3], [.own 128 Y1], []⟩)]
noncomputable def f123_12 (x : (List S1) × (List S1) × Int × Unit) : Option (((List S1) × (List S1) × Int × Unit) ⊕ ((List S1) × Unit)) :=
 let a4 := x.1
 let out5 := x.2.1
 let i6 := x.2.2.1
 bif (blt i6 (a4.length : Int)) then (
  bif (inR i6 (a4.length : Int)) then (
   (f164 ((a4.getD i6.toNat ((0 : Int), (0 : Int), (0 : Nat), (⟨#[]⟩ : ByteArray), (0 : Int))), ())).bind fun r9 =>
   bif (inR i6 (out5.length : Int)) then (
    some (.inl (a4, (out5.set i6.toNat r9.1.1), (wr (i6 + (1 : Int))), ())))
   else none)
  else none)
 else some (.inr (out5, ()))
def ps123 : List VS := [.val (.row Y1)]
def rs123 : List VS := [.own 128 Y1]
noncomputable def f123 (x : (List S1) × Unit) : Option (((List S1) × Unit) × (Unit)) :=
 let a1 := x.1
 let v2 := (a1.length : Int)
 bif (inE v2 ((5864062014805 : Nat) : Int)) then (
  (loopF f123_12 (a1, (List.replicate v2.toNat ((0 : Int), (0 : Int), (0 : Nat), (⟨#[]⟩ : ByteArray), (0 : Int))), (0 : Int), ())).bind fun z12 =>
  some ((z12.1, ()), ()))
 else none
/-! ### loop.example/loom/laws.toIns -/
def ps165 : List VS := [.val Y2]
def rs165 : List VS := [.val Y2]
noncomputable def f165 (x : S2 × Unit) : Option ((S2 × Unit) × (Unit)) :=
 some ((x.1, ()), ())
/-! ### loop.example/loom/laws.toInsS -/
def sh124_12 : Sh := ⟨[0, 3, 4], [.val (.row Y2), .own 118 Y2, .val (.int .i64)], []⟩
def outs124_12 : List (Ex × Sh) := [((.exit 0), ⟨[3], [.own 118 Y2], []⟩)]
noncomputable def f124_12 (x : (List S2) × (List S2) × Int × Unit) : Option (((List S2) × (List S2) × Int × Unit) ⊕ ((List S2) × Unit)) :=
 let a4 := x.1
 let out5 := x.2.1
 let i6 := x.2.2.1
 bif (blt i6 (a4.length : Int)) then (
  bif (inR i6 (a4.length : Int)) then (
   (f165 ((a4.getD i6.toNat ((0 : Int), (0 : Int), (0 : Int), (0 : Int), (0 : Int))), ())).bind fun r9 =>
   bif (inR i6 (out5.length : Int)) then (
    some (.inl (a4, (out5.set i6.toNat r9.1.1), (wr (i6 + (1 : Int))), ())))
   else none)
  else none)
 else some (.inr (out5, ()))
def ps124 : List VS := [.val (.row Y2)]
def rs124 : List VS := [.own 118 Y2]
noncomputable def f124 (x : (List S2) × Unit) : Option (((List S2) × Unit) × (Unit)) :=
 let a1 := x.1
 let v2 := (a1.length : Int)
 bif (inE v2 ((7036874417766 : Nat) : Int)) then (
  (loopF f124_12 (a1, (List.replicate v2.toNat ((0 : Int), (0 : Int), (0 : Int), (0 : Int), (0 : Int))), (0 : Int), ())).bind fun z12 =>
  some ((z12.1, ()), ()))
 else none
/-! ### loop.example/loom/laws.toNamed -/
def ps166 : List VS := [.val Y3]
def rs166 : List VS := [.val Y3]
noncomputable def f166 (x : S3 × Unit) : Option ((S3 × Unit) × (Unit)) :=
 some ((x.1, ()), ())
/-! ### loop.example/loom/laws.toNamedS -/
def sh125_12 : Sh := ⟨[0, 3, 4], [.val (.row Y3), .own 221 Y3, .val (.int .i64)], []⟩
def outs125_12 : List (Ex × Sh) := [((.exit 0), ⟨[3], [.own 221 Y3], []⟩)]
noncomputable def f125_12 (x : (List S3) × (List S3) × Int × Unit) : Option (((List S3) × (List S3) × Int × Unit) ⊕ ((List S3) × Unit)) :=
 let a4 := x.1
 let out5 := x.2.1
 let i6 := x.2.2.1
 bif (blt i6 (a4.length : Int)) then (
  bif (inR i6 (a4.length : Int)) then (
   (f166 ((a4.getD i6.toNat ((⟨#[]⟩ : ByteArray), (0 : Int), (0 : Int), (0 : Int))), ())).bind fun r9 =>
   bif (inR i6 (out5.length : Int)) then (
    some (.inl (a4, (out5.set i6.toNat r9.1.1), (wr (i6 + (1 : Int))), ())))
   else none)
  else none)
 else some (.inr (out5, ()))
def ps125 : List VS := [.val (.row Y3)]
def rs125 : List VS := [.own 221 Y3]
noncomputable def f125 (x : (List S3) × Unit) : Option (((List S3) × Unit) × (Unit)) :=
 let a1 := x.1
 let v2 := (a1.length : Int)
 bif (inE v2 ((7036874417766 : Nat) : Int)) then (
  (loopF f125_12 (a1, (List.replicate v2.toNat ((⟨#[]⟩ : ByteArray), (0 : Int), (0 : Int), (0 : Int))), (0 : Int), ())).bind fun z12 =>
  some ((z12.1, ()), ()))
 else none
/-! ### loop.example/loom/laws.toProto -/
def ps66 : List VS := [.val Y4]
def rs66 : List VS := [.rc [.sc .str, .sc (.int .i64), .sc (.int .i64), .sc .bool, .sc (.int .i64), .own 224 Y0, .own 128 Y1, .own 118 Y2, .own 221 Y3]]
noncomputable def f66 (x : S9 × Unit) : Option (((ByteArray × Int × Int × Bool × Int × (List S0) × (List S1) × (List S2) × (List S3) × Unit) × Unit) × (Unit)) :=
 let a1 := x.1
 (f122 (a1.2.2.2.2.2.1, ())).bind fun r2 =>
 (f123 (a1.2.2.2.2.2.2.1, ())).bind fun r3 =>
 (f124 (a1.2.2.2.2.2.2.2.1, ())).bind fun r4 =>
 (f125 (a1.2.2.2.2.2.2.2.2, ())).bind fun r5 =>
 some (((a1.1, a1.2.1, a1.2.2.1, a1.2.2.2.1, a1.2.2.2.2.1, r2.1.1, r3.1.1, r4.1.1, r5.1.1, ()), ()), ())
/-! ### loop.example/loom/laws.toProtoS -/
def sh26_12 : Sh := ⟨[0, 3, 4], [.val (.row Y4), .deep 71 Z0 false, .val (.int .i64)], []⟩
def outs26_12 : List (Ex × Sh) := [((.exit 0), ⟨[3], [.deep 71 Z0 false], []⟩)]
noncomputable def f26_12 (x : (List S9) × (List S9) × Int × Unit) : Option (((List S9) × (List S9) × Int × Unit) ⊕ ((List S9) × Unit)) :=
 let a4 := x.1
 let out5 := x.2.1
 let i6 := x.2.2.1
 bif (blt i6 (a4.length : Int)) then (
  bif (inR i6 (a4.length : Int)) then (
   (f66 ((a4.getD i6.toNat ((⟨#[]⟩ : ByteArray), (0 : Int), (0 : Int), false, (0 : Int), ([] : List S0), ([] : List S1), ([] : List S2), ([] : List S3))), ())).bind fun r9 =>
   bif (inR i6 (out5.length : Int)) then (
    some (.inl (a4, (out5.set i6.toNat (r9.1.1.1, r9.1.1.2.1, r9.1.1.2.2.1, r9.1.1.2.2.2.1, r9.1.1.2.2.2.2.1, r9.1.1.2.2.2.2.2.1, r9.1.1.2.2.2.2.2.2.1, r9.1.1.2.2.2.2.2.2.2.1, r9.1.1.2.2.2.2.2.2.2.2.1)), (wr (i6 + (1 : Int))), ())))
   else none)
  else none)
 else some (.inr (out5, ()))
def ps26 : List VS := [.val (.row Y4)]
def rs26 : List VS := [.deep 71 Z0 false]
noncomputable def f26 (x : (List S9) × Unit) : Option (((List S9) × Unit) × (Unit)) :=
 let a1 := x.1
 let v2 := (a1.length : Int)
 bif (inE v2 ((1954687338268 : Nat) : Int)) then (
  (loopF f26_12 (a1, (List.replicate v2.toNat ((⟨#[]⟩ : ByteArray), (0 : Int), (0 : Int), false, (0 : Int), ([] : List S0), ([] : List S1), ([] : List S2), ([] : List S3))), (0 : Int), ())).bind fun z12 =>
  some ((z12.1, ()), ()))
 else none
/-! ### loop.example/loom/laws.toCode -/
def ps7 : List VS := [.val Y5]
def rs7 : List VS := [.rc [.deep 71 Z0]]
noncomputable def f7 (x : S25 × Unit) : Option ((((List S9) × Unit) × Unit) × (Unit)) :=
 (f26 (x.1, ())).bind fun r2 =>
 some (((r2.1.1, ()), ()), ())
/-! ### loop.example/loom/impl.within -/
def ps126 : List VS := [.val (.int .i64), .val (.int .i64), .val (.int .i64)]
def rs126 : List VS := [.val .bool]
noncomputable def f126 (x : Int × Int × Int × Unit) : Option ((Bool × Unit) × (Unit)) :=
 let x1 := x.1
 some ((((ble x.2.1 x1) && (ble x1 x.2.2.1)), ()), ())
/-! ### loop.example/loom/impl.bare -/
def ps167 : List VS := [.val Y1, .val .bool, .val .bool, .val .bool, .val .bool]
def rs167 : List VS := [.val .bool]
noncomputable def f167 (x : S1 × Bool × Bool × Bool × Bool × Unit) : Option ((Bool × Unit) × (Unit)) :=
 let v1 := x.1
 some ((((((x.2.1 || (beq v1.2.1 (0 : Int))) && (x.2.2.1 || (fOrd v1.2.2.1 (0 : Nat) == some .eq))) && (x.2.2.2.1 || (beqS v1.2.2.2.1 (⟨#[]⟩ : ByteArray)))) && (x.2.2.2.2.1 || (beq v1.2.2.2.2 (0 : Int)))), ()), ())
/-! ### loop.example/loom/impl.valueOk -/
def ps127 : List VS := [.val Y1]
def rs127 : List VS := [.val .bool]
noncomputable def f127 (x : S1 × Unit) : Option ((Bool × Unit) × (Unit)) :=
 let v1 := x.1
 bif (beq v1.1 (0 : Int)) then (
  (f167 (v1, false, false, false, false, ())).bind fun r3 =>
  some ((r3.1.1, ()), ()))
 else bif (beq v1.1 (1 : Int)) then (
  (f167 (v1, true, false, false, false, ())).bind fun r5 =>
  some (((r5.1.1 && ((beq v1.2.1 (0 : Int)) || (beq v1.2.1 (1 : Int)))), ()), ()))
 else bif (beq v1.1 (2 : Int)) then (
  (f167 (v1, true, false, false, false, ())).bind fun r8 =>
  some ((r8.1.1, ()), ()))
 else bif (beq v1.1 (3 : Int)) then (
  (f167 (v1, false, true, false, false, ())).bind fun r10 =>
  some ((r10.1.1, ()), ()))
 else bif (beq v1.1 (4 : Int)) then (
  (f167 (v1, false, false, true, false, ())).bind fun r12 =>
  some (((r12.1.1 && (ble (v1.2.2.2.1.size : Int) (4000 : Int))), ()), ()))
 else bif ((beq v1.1 (5 : Int)) || ((beq v1.1 (6 : Int)) || (beq v1.1 (7 : Int)))) then (
  (f167 (v1, false, false, false, true, ())).bind fun r16 =>
  some (((r16.1.1 && (ble (0 : Int) v1.2.2.2.2)), ()), ()))
 else bif (beq v1.1 (8 : Int)) then (
  (f167 (v1, true, false, false, false, ())).bind fun r19 =>
  some ((((r19.1.1 && (ble (0 : Int) v1.2.1)) && (blt v1.2.1 (15 : Int))), ()), ()))
 else some ((false, ()), ())
/-! ### math.IsNaN -/
def ps128 : List VS := [.val .flt]
def rs128 : List VS := [.val .bool]
noncomputable def f128 (x : Nat × Unit) : Option ((Bool × Unit) × (Unit)) :=
 let f1 := x.1
 some (((fOrd f1 f1 != some .eq), ()), ())
/-! ### (loop.example/loom/impl.Ins).fields -/
abbrev S28 := Int × Int × Int × Int
def ps169 : List VS := [.val Y2]
def rs169 : List VS := [.val Y33]
noncomputable def f169 (x : S2 × Unit) : Option ((S28 × Unit) × (Unit)) :=
 some ((x.1.2, ()), ())
/-! ### loop.example/loom/impl.fieldOk -/
def ps170 : List VS := [.val Y5, .val Y4, .val (.int .i64), .val (.int .i64)]
def rs170 : List VS := [.val .bool]
noncomputable def f170 (x : S25 × S9 × Int × Int × Unit) : Option ((Bool × Unit) × (Unit)) :=
 let p2 := x.2.1
 let r3 := x.2.2.1
 let x4 := x.2.2.2.1
 bif ((beq r3 (1 : Int)) || ((beq r3 (4 : Int)) || ((beq r3 (5 : Int)) || (beq r3 (6 : Int))))) then (
  (f126 (x4, (0 : Int), (wr (p2.2.2.2.2.1 - (1 : Int))), ())).bind fun r8 =>
  some ((r8.1.1, ()), ()))
 else bif ((beq r3 (2 : Int)) || (beq r3 (3 : Int))) then (
  (f126 ((bif (blt x4 (0 : Int)) then (wr ((-1 : Int) - x4)) else x4), (0 : Int), (wr (p2.2.2.2.2.1 - (1 : Int))), ())).bind fun r14 =>
  some ((r14.1.1, ()), ()))
 else bif (beq r3 (7 : Int)) then (
  (f126 (x4, (1 : Int), (100000 : Int), ())).bind fun r16 =>
  some ((r16.1.1, ()), ()))
 else bif (beq r3 (8 : Int)) then (
  (f126 (x4, (0 : Int), (100000 : Int), ())).bind fun r18 =>
  some ((r18.1.1, ()), ()))
 else bif (beq r3 (9 : Int)) then (
  (f126 (x4, (0 : Int), (wr ((p2.2.2.2.2.2.2.1.length : Int) - (1 : Int))), ())).bind fun r22 =>
  some ((r22.1.1, ()), ()))
 else bif (beq r3 (10 : Int)) then (
  (f126 (x4, (0 : Int), (wr ((p2.2.2.2.2.2.1.length : Int) - (1 : Int))), ())).bind fun r26 =>
  some ((r26.1.1, ()), ()))
 else bif (beq r3 (11 : Int)) then (
  (f126 (x4, (0 : Int), (wr ((x.1.length : Int) - (1 : Int))), ())).bind fun r30 =>
  some ((r30.1.1, ()), ()))
 else bif (beq r3 (12 : Int)) then (
  (f126 (x4, (0 : Int), (wr ((p2.2.2.2.2.2.2.2.1.length : Int) - (1 : Int))), ())).bind fun r34 =>
  some ((r34.1.1, ()), ()))
 else bif (beq r3 (13 : Int)) then (
  (f126 (x4, (1 : Int), (18 : Int), ())).bind fun r36 =>
  some ((r36.1.1, ()), ()))
 else bif (beq r3 (14 : Int)) then (
  (f126 (x4, (19 : Int), (22 : Int), ())).bind fun r38 =>
  some ((r38.1.1, ()), ()))
 else bif (beq r3 (15 : Int)) then (
  (f126 (x4, (0 : Int), (250 : Int), ())).bind fun r40 =>
  some ((r40.1.1, ()), ()))
 else bif (beq r3 (16 : Int)) then (
  (f126 (x4, (0 : Int), p2.2.2.2.2.1, ())).bind fun r42 =>
  some ((r42.1.1, ()), ()))
 else bif (beq r3 (17 : Int)) then (
  (f126 (x4, (0 : Int), (wr (p2.2.2.2.2.1 - (2 : Int))), ())).bind fun r45 =>
  some ((r45.1.1, ()), ()))
 else bif (beq r3 (18 : Int)) then (
  (f126 (x4, (0 : Int), (wr (p2.2.2.2.2.1 - (3 : Int))), ())).bind fun r48 =>
  some ((r48.1.1, ()), ()))
 else bif ((beq r3 (19 : Int)) || (beq r3 (20 : Int))) then (
  (f126 (x4, (0 : Int), (wr (p2.2.2.2.2.1 - (2 : Int))), ())).bind fun r52 =>
  some ((r52.1.1, ()), ()))
 else some (((beq x4 (0 : Int)), ()), ())
/-! ### loop.example/loom/impl.insOk -/
def sh130_20 : Sh := ⟨[3, 4, 7, 21, 22], [.box 32 [.sc Y5] 0, .box 71 [.sc Y4] 0, .box 290 [.sc Y33] 0, .val Y33, .val (.int .i64)], []⟩
def outs130_20 : List (Ex × Sh) := [((.exit 0), ⟨[], [], []⟩), (.ret, ⟨[6], [.val .bool], []⟩)]
noncomputable def f130_20 (x : (S25 × Unit) × (S9 × Unit) × (S28 × Unit) × S28 × Int × Unit) : Option (((S25 × Unit) × (S9 × Unit) × (S28 × Unit) × S28 × Int × Unit) ⊕ ((Unit) ⊕ (Bool × Unit))) :=
 let v7 := x.2.2.2.1
 let v8 := x.2.2.2.2.1
 bif (blt v8 (4 : Int)) then (
  bif (inR v8 4) then (
   let v10 := ([v7.1, v7.2.1, v7.2.2.1, v7.2.2.2].getD v8.toNat 0)
   bif (beq v8 (0 : Int)) then (
    (f170 (x.1.1, x.2.1.1, x.2.2.1.1.1, v10, ())).bind fun r11 =>
    bif (!r11.1.1) then some (.inr (.inr (false, ())))
    else some (.inl ((x.1.1, ()), (x.2.1.1, ()), (x.2.2.1.1, ()), v7, (wr (v8 + (1 : Int))), ())))
   else bif (beq v8 (1 : Int)) then (
    (f170 (x.1.1, x.2.1.1, x.2.2.1.1.2.1, v10, ())).bind fun r14 =>
    bif (!r14.1.1) then some (.inr (.inr (false, ())))
    else some (.inl ((x.1.1, ()), (x.2.1.1, ()), (x.2.2.1.1, ()), v7, (wr (v8 + (1 : Int))), ())))
   else bif (beq v8 (2 : Int)) then (
    (f170 (x.1.1, x.2.1.1, x.2.2.1.1.2.2.1, v10, ())).bind fun r17 =>
    bif (!r17.1.1) then some (.inr (.inr (false, ())))
    else some (.inl ((x.1.1, ()), (x.2.1.1, ()), (x.2.2.1.1, ()), v7, (wr (v8 + (1 : Int))), ())))
   else bif (beq v8 (3 : Int)) then (
    (f170 (x.1.1, x.2.1.1, x.2.2.1.1.2.2.2, v10, ())).bind fun r20 =>
    bif (!r20.1.1) then some (.inr (.inr (false, ())))
    else some (.inl ((x.1.1, ()), (x.2.1.1, ()), (x.2.2.1.1, ()), v7, (wr (v8 + (1 : Int))), ())))
   else none)
  else none)
 else some (.inr (.inl ()))
def ps130 : List VS := [.val Y5, .val Y4, .val Y2]
def rs130 : List VS := [.val .bool]
noncomputable def f130 (x : S25 × S9 × S2 × Unit) : Option ((Bool × Unit) × (Unit)) :=
 let n3 := x.2.2.1
 bif (!(thas tbl1 n3.1)) then some ((false, ()), ())
 else (
  (f169 (n3, ())).bind fun r6 =>
  (loopF f130_20 ((x.1, ()), (x.2.1, ()), ((((tlook tbl1 n3.1).getD 0 0), ((tlook tbl1 n3.1).getD 1 0), ((tlook tbl1 n3.1).getD 2 0), ((tlook tbl1 n3.1).getD 3 0)), ()), r6.1.1, (0 : Int), ())).bind fun y26 => match y26 with
   | .inl _ => (
    some ((true, ()), ()))
   | .inr z24 => (
    some ((z24.1, ()), ())))
/-! ### loop.example/loom/impl.checkShape -/
def sh67_12 : Sh := ⟨[1, 2, 3, 31, 32, 33], [.box 32 [.sc Y5] 0, .box 64 [.sc Y23] 0, .val (.int .i64), .val (.row Y4), .val (.int .i64), .val (.int .i64)], []⟩
def outs67_12 : List (Ex × Sh) := [((.exit 0), ⟨[1, 2, 3], [.box 32 [.sc Y5] 0, .box 64 [.sc Y23] 0, .val (.int .i64)], []⟩)]
noncomputable def f67_12 (x : (S25 × Unit) × (S26 × Unit) × Int × (List S9) × Int × Int × Unit) : Option (((S25 × Unit) × (S26 × Unit) × Int × (List S9) × Int × Int × Unit) ⊕ ((S25 × Unit) × (S26 × Unit) × Int × Unit)) :=
 let r3 := x.2.2.1
 let v4 := x.2.2.2.1
 let v5 := x.2.2.2.2.1
 let v6 := x.2.2.2.2.2.1
 bif (blt v6 v5) then (
  bif (inR v6 (v4.length : Int)) then (
   some (.inl ((x.1.1, ()), (x.2.1.1, ()), (wr (r3 + ((v4.getD v6.toNat ((⟨#[]⟩ : ByteArray), (0 : Int), (0 : Int), false, (0 : Int), ([] : List S0), ([] : List S1), ([] : List S2), ([] : List S3))).2.2.2.2.2.2.2.1.length : Int))), v4, v5, (wr (v6 + (1 : Int))), ())))
  else none)
 else some (.inr ((x.1.1, ()), (x.2.1.1, ()), r3, ()))
def sh67_40 : Sh := ⟨[1, 2, 59, 60, 61], [.box 32 [.sc Y5] 0, .box 64 [.sc Y23] 0, .val (.row Y4), .val (.int .i64), .val (.int .i64)], []⟩
def outs67_40 : List (Ex × Sh) := [((.exit 2), ⟨[1, 2], [.box 32 [.sc Y5] 0, .box 64 [.sc Y23] 0], []⟩), (.ret, ⟨[2], [.box 64 [.sc Y23] 0], []⟩)]
noncomputable def f67_40 (x : (S25 × Unit) × (S26 × Unit) × (List S9) × Int × Int × Unit) : Option (((S25 × Unit) × (S26 × Unit) × (List S9) × Int × Int × Unit) ⊕ (((S25 × Unit) × (S26 × Unit) × Unit) ⊕ ((S26 × Unit) × Unit))) :=
 let v19 := x.2.2.1
 let v20 := x.2.2.2.1
 let v21 := x.2.2.2.2.1
 bif (blt v21 v20) then (
  bif (inR v21 (v19.length : Int)) then (
   let v23 := (v19.getD v21.toNat ((⟨#[]⟩ : ByteArray), (0 : Int), (0 : Int), false, (0 : Int), ([] : List S0), ([] : List S1), ([] : List S2), ([] : List S3))).2.2.2.2.1
   (joinB (blt (40 : Int) ((v19.getD v21.toNat ((⟨#[]⟩ : ByteArray), (0 : Int), (0 : Int), false, (0 : Int), ([] : List S0), ([] : List S1), ([] : List S2), ([] : List S3))).1.size : Int)) (some true) ((f126 ((v19.getD v21.toNat ((⟨#[]⟩ : ByteArray), (0 : Int), (0 : Int), false, (0 : Int), ([] : List S0), ([] : List S1), ([] : List S2), ([] : List S3))).2.1, (0 : Int), (100000 : Int), ())).bind fun r29 => (some (!r29.1.1)))).bind fun c30 =>
   (joinB c30 (some true) ((f126 ((v19.getD v21.toNat ((⟨#[]⟩ : ByteArray), (0 : Int), (0 : Int), false, (0 : Int), ([] : List S0), ([] : List S1), ([] : List S2), ([] : List S3))).2.2.2.2.1, (0 : Int), (250 : Int), ())).bind fun r31 => (some (!r31.1.1)))).bind fun c32 =>
   (joinB c32 (some true) ((f126 ((v19.getD v21.toNat ((⟨#[]⟩ : ByteArray), (0 : Int), (0 : Int), false, (0 : Int), ([] : List S0), ([] : List S1), ([] : List S2), ([] : List S3))).2.2.1, (0 : Int), (bif (v19.getD v21.toNat ((⟨#[]⟩ : ByteArray), (0 : Int), (0 : Int), false, (0 : Int), ([] : List S0), ([] : List S1), ([] : List S2), ([] : List S3))).2.2.2.1 then (wr (v23 - (1 : Int))) else v23), ())).bind fun r33 => (some (!r33.1.1)))).bind fun c34 =>
   bif (((c34 || (blt (250 : Int) ((v19.getD v21.toNat ((⟨#[]⟩ : ByteArray), (0 : Int), (0 : Int), false, (0 : Int), ([] : List S0), ([] : List S1), ([] : List S2), ([] : List S3))).2.2.2.2.2.1.length : Int))) || (blt (500 : Int) ((v19.getD v21.toNat ((⟨#[]⟩ : ByteArray), (0 : Int), (0 : Int), false, (0 : Int), ([] : List S0), ([] : List S1), ([] : List S2), ([] : List S3))).2.2.2.2.2.2.1.length : Int))) || ((beq v21 (0 : Int)) && ((blt (0 : Int) (v19.getD v21.toNat ((⟨#[]⟩ : ByteArray), (0 : Int), (0 : Int), false, (0 : Int), ([] : List S0), ([] : List S1), ([] : List S2), ([] : List S3))).2.2.1) || (blt (0 : Int) ((v19.getD v21.toNat ((⟨#[]⟩ : ByteArray), (0 : Int), (0 : Int), false, (0 : Int), ([] : List S0), ([] : List S1), ([] : List S2), ([] : List S3))).2.2.2.2.2.1.length : Int))))) then some (.inr (.inr ((((2 : Int), v21, (0 : Int)), ()), ())))
   else some (.inl ((x.1.1, ()), (x.2.1.1, ()), v19, v20, (wr (v21 + (1 : Int))), ())))
  else none)
 else some (.inr (.inl ((x.1.1, ()), (x.2.1.1, ()), ())))
def sh67_88 : Sh := ⟨[1, 2, 9, 126, 127, 128, 134, 135, 136], [.box 32 [.sc Y5] 0, .box 64 [.sc Y23] 0, .val (.int .i64), .val (.row Y4), .val (.int .i64), .val (.int .i64), .val (.row Y1), .val (.int .i64), .val (.int .i64)], []⟩
def outs67_88 : List (Ex × Sh) := [((.exit 6), ⟨[1, 2, 126, 127, 128], [.box 32 [.sc Y5] 0, .box 64 [.sc Y23] 0, .val (.row Y4), .val (.int .i64), .val (.int .i64)], []⟩), (.ret, ⟨[2], [.box 64 [.sc Y23] 0], []⟩)]
noncomputable def f67_88 (x : (S25 × Unit) × (S26 × Unit) × Int × (List S9) × Int × Int × (List S1) × Int × Int × Unit) : Option (((S25 × Unit) × (S26 × Unit) × Int × (List S9) × Int × Int × (List S1) × Int × Int × Unit) ⊕ (((S25 × Unit) × (S26 × Unit) × (List S9) × Int × Int × Unit) ⊕ ((S26 × Unit) × Unit))) :=
 let v47 := x.2.2.1
 let v48 := x.2.2.2.1
 let v49 := x.2.2.2.2.1
 let v50 := x.2.2.2.2.2.1
 let v51 := x.2.2.2.2.2.2.1
 let v52 := x.2.2.2.2.2.2.2.1
 let v53 := x.2.2.2.2.2.2.2.2.1
 bif (blt v53 v52) then (
  bif (inR v53 (v51.length : Int)) then (
   (f127 ((v51.getD v53.toNat ((0 : Int), (0 : Int), (0 : Nat), (⟨#[]⟩ : ByteArray), (0 : Int))), ())).bind fun r55 =>
   (joinB ((((!r55.1.1) || (beq (v51.getD v53.toNat ((0 : Int), (0 : Int), (0 : Nat), (⟨#[]⟩ : ByteArray), (0 : Int))).1 (5 : Int))) || (beq (v51.getD v53.toNat ((0 : Int), (0 : Int), (0 : Nat), (⟨#[]⟩ : ByteArray), (0 : Int))).1 (6 : Int))) || (beq (v51.getD v53.toNat ((0 : Int), (0 : Int), (0 : Nat), (⟨#[]⟩ : ByteArray), (0 : Int))).1 (7 : Int))) (some true) (joinB (beq (v51.getD v53.toNat ((0 : Int), (0 : Int), (0 : Nat), (⟨#[]⟩ : ByteArray), (0 : Int))).1 (3 : Int)) ((f128 ((v51.getD v53.toNat ((0 : Int), (0 : Int), (0 : Nat), (⟨#[]⟩ : ByteArray), (0 : Int))).2.2.1, ())).bind fun r60 => (some r60.1.1)) (some false))).bind fun c61 =>
   (joinB c61 (some true) (joinB (bne (v51.getD v53.toNat ((0 : Int), (0 : Int), (0 : Nat), (⟨#[]⟩ : ByteArray), (0 : Int))).1 (3 : Int)) ((f129 ((v51.getD v53.toNat ((0 : Int), (0 : Int), (0 : Nat), (⟨#[]⟩ : ByteArray), (0 : Int))).2.2.1, ())).bind fun r62 => (some r62.1.1)) (some false))).bind fun c63 =>
   bif c63 then some (.inr (.inr ((((3 : Int), v47, v53), ()), ())))
   else some (.inl ((x.1.1, ()), (x.2.1.1, ()), v47, v48, v49, v50, v51, v52, (wr (v53 + (1 : Int))), ())))
  else none)
 else some (.inr (.inl ((x.1.1, ()), (x.2.1.1, ()), v48, v49, v50, ())))
def sh67_76 : Sh := ⟨[1, 2, 126, 127, 128], [.box 32 [.sc Y5] 0, .box 64 [.sc Y23] 0, .val (.row Y4), .val (.int .i64), .val (.int .i64)], []⟩
def outs67_76 : List (Ex × Sh) := [((.exit 4), ⟨[1, 2], [.box 32 [.sc Y5] 0, .box 64 [.sc Y23] 0], []⟩), (.ret, ⟨[2], [.box 64 [.sc Y23] 0], []⟩)]
noncomputable def f67_76 (x : (S25 × Unit) × (S26 × Unit) × (List S9) × Int × Int × Unit) : Option (((S25 × Unit) × (S26 × Unit) × (List S9) × Int × Int × Unit) ⊕ (((S25 × Unit) × (S26 × Unit) × Unit) ⊕ ((S26 × Unit) × Unit))) :=
 let v41 := x.2.2.1
 let v42 := x.2.2.2.1
 let v43 := x.2.2.2.2.1
 bif (blt v43 v42) then (
  bif (inR v43 (v41.length : Int)) then (
   let v45 := (v41.getD v43.toNat ((⟨#[]⟩ : ByteArray), (0 : Int), (0 : Int), false, (0 : Int), ([] : List S0), ([] : List S1), ([] : List S2), ([] : List S3))).2.2.2.2.2.2.1
   (loopF f67_88 ((x.1.1, ()), (x.2.1.1, ()), v43, v41, v42, v43, v45, (v45.length : Int), (0 : Int), ())).bind fun y71 => match y71 with
    | .inl z65 => (
     some (.inl ((z65.1.1, ()), (z65.2.1.1, ()), z65.2.2.1, z65.2.2.2.1, (wr (z65.2.2.2.2.1 + (1 : Int))), ())))
    | .inr z70 => (
     some (.inr (.inr ((z70.1.1, ()), ())))))
  else none)
 else some (.inr (.inl ((x.1.1, ()), (x.2.1.1, ()), ())))
def sh67_128 : Sh := ⟨[1, 2, 13, 14, 185, 186, 187, 193, 194, 195], [.box 32 [.sc Y5] 0, .box 64 [.sc Y23] 0, .val (.int .i64), .box 71 [.sc Y4] 0, .val (.row Y4), .val (.int .i64), .val (.int .i64), .val (.row Y3), .val (.int .i64), .val (.int .i64)], []⟩
def outs67_128 : List (Ex × Sh) := [((.exit 10), ⟨[1, 2, 185, 186, 187], [.box 32 [.sc Y5] 0, .box 64 [.sc Y23] 0, .val (.row Y4), .val (.int .i64), .val (.int .i64)], []⟩), (.ret, ⟨[2], [.box 64 [.sc Y23] 0], []⟩)]
noncomputable def f67_128 (x : (S25 × Unit) × (S26 × Unit) × Int × (S9 × Unit) × (List S9) × Int × Int × (List S3) × Int × Int × Unit) : Option (((S25 × Unit) × (S26 × Unit) × Int × (S9 × Unit) × (List S9) × Int × Int × (List S3) × Int × Int × Unit) ⊕ (((S25 × Unit) × (S26 × Unit) × (List S9) × Int × Int × Unit) ⊕ ((S26 × Unit) × Unit))) :=
 let v80 := x.2.2.1
 let v81 := x.2.2.2.2.1
 let v82 := x.2.2.2.2.2.1
 let v83 := x.2.2.2.2.2.2.1
 let v84 := x.2.2.2.2.2.2.2.1
 let v85 := x.2.2.2.2.2.2.2.2.1
 let v86 := x.2.2.2.2.2.2.2.2.2.1
 bif (blt v86 v85) then (
  bif (inR v86 (v84.length : Int)) then (
   (joinB ((blt ((v84.getD v86.toNat ((⟨#[]⟩ : ByteArray), (0 : Int), (0 : Int), (0 : Int))).1.size : Int) (1 : Int)) || (blt (40 : Int) ((v84.getD v86.toNat ((⟨#[]⟩ : ByteArray), (0 : Int), (0 : Int), (0 : Int))).1.size : Int))) (some true) ((f126 ((v84.getD v86.toNat ((⟨#[]⟩ : ByteArray), (0 : Int), (0 : Int), (0 : Int))).2.1, (0 : Int), (wr (x.2.2.2.1.1.2.2.2.2.1 - (1 : Int))), ())).bind fun r92 => (some (!r92.1.1)))).bind fun c93 =>
   bif ((((c93 || (blt (v84.getD v86.toNat ((⟨#[]⟩ : ByteArray), (0 : Int), (0 : Int), (0 : Int))).2.2.1 (0 : Int))) || (blt (v84.getD v86.toNat ((⟨#[]⟩ : ByteArray), (0 : Int), (0 : Int), (0 : Int))).2.2.2 (v84.getD v86.toNat ((⟨#[]⟩ : ByteArray), (0 : Int), (0 : Int), (0 : Int))).2.2.1)) || (blt (x.2.2.2.1.1.2.2.2.2.2.2.2.1.length : Int) (v84.getD v86.toNat ((⟨#[]⟩ : ByteArray), (0 : Int), (0 : Int), (0 : Int))).2.2.2)) || (beq v86 (500 : Int))) then some (.inr (.inr ((((4 : Int), v80, v86), ()), ())))
   else some (.inl ((x.1.1, ()), (x.2.1.1, ()), v80, (x.2.2.2.1.1, ()), v81, v82, v83, v84, v85, (wr (v86 + (1 : Int))), ())))
  else none)
 else some (.inr (.inl ((x.1.1, ()), (x.2.1.1, ()), v81, v82, v83, ())))
def sh67_116 : Sh := ⟨[1, 2, 185, 186, 187], [.box 32 [.sc Y5] 0, .box 64 [.sc Y23] 0, .val (.row Y4), .val (.int .i64), .val (.int .i64)], []⟩
def outs67_116 : List (Ex × Sh) := [((.exit 8), ⟨[1, 2], [.box 32 [.sc Y5] 0, .box 64 [.sc Y23] 0], []⟩), (.ret, ⟨[2], [.box 64 [.sc Y23] 0], []⟩)]
noncomputable def f67_116 (x : (S25 × Unit) × (S26 × Unit) × (List S9) × Int × Int × Unit) : Option (((S25 × Unit) × (S26 × Unit) × (List S9) × Int × Int × Unit) ⊕ (((S25 × Unit) × (S26 × Unit) × Unit) ⊕ ((S26 × Unit) × Unit))) :=
 let v74 := x.2.2.1
 let v75 := x.2.2.2.1
 let v76 := x.2.2.2.2.1
 bif (blt v76 v75) then (
  bif (inR v76 (v74.length : Int)) then (
   let v78 := (v74.getD v76.toNat ((⟨#[]⟩ : ByteArray), (0 : Int), (0 : Int), false, (0 : Int), ([] : List S0), ([] : List S1), ([] : List S2), ([] : List S3))).2.2.2.2.2.2.2.2
   (loopF f67_128 ((x.1.1, ()), (x.2.1.1, ()), v76, ((v74.getD v76.toNat ((⟨#[]⟩ : ByteArray), (0 : Int), (0 : Int), false, (0 : Int), ([] : List S0), ([] : List S1), ([] : List S2), ([] : List S3))), ()), v74, v75, v76, v78, (v78.length : Int), (0 : Int), ())).bind fun y105 => match y105 with
    | .inl z99 => (
     some (.inl ((z99.1.1, ()), (z99.2.1.1, ()), z99.2.2.1, z99.2.2.2.1, (wr (z99.2.2.2.2.1 + (1 : Int))), ())))
    | .inr z104 => (
     some (.inr (.inr ((z104.1.1, ()), ())))))
  else none)
 else some (.inr (.inl ((x.1.1, ()), (x.2.1.1, ()), ())))
def sh67_176 : Sh := ⟨[1, 2, 17, 18, 249, 250, 251, 263, 264, 265], [.box 32 [.sc Y5] 0, .box 64 [.sc Y23] 0, .val (.int .i64), .box 71 [.sc Y4] 0, .val (.row Y4), .val (.int .i64), .val (.int .i64), .val (.row Y2), .val (.int .i64), .val (.int .i64)], []⟩
def outs67_176 : List (Ex × Sh) := [((.exit 14), ⟨[1, 2, 249, 250, 251], [.box 32 [.sc Y5] 0, .box 64 [.sc Y23] 0, .val (.row Y4), .val (.int .i64), .val (.int .i64)], []⟩), (.ret, ⟨[2], [.box 64 [.sc Y23] 0], []⟩)]
noncomputable def f67_176 (x : (S25 × Unit) × (S26 × Unit) × Int × (S9 × Unit) × (List S9) × Int × Int × (List S2) × Int × Int × Unit) : Option (((S25 × Unit) × (S26 × Unit) × Int × (S9 × Unit) × (List S9) × Int × Int × (List S2) × Int × Int × Unit) ⊕ (((S25 × Unit) × (S26 × Unit) × (List S9) × Int × Int × Unit) ⊕ ((S26 × Unit) × Unit))) :=
 let v117 := x.2.2.1
 let v118 := x.2.2.2.2.1
 let v119 := x.2.2.2.2.2.1
 let v120 := x.2.2.2.2.2.2.1
 let v121 := x.2.2.2.2.2.2.2.1
 let v122 := x.2.2.2.2.2.2.2.2.1
 let v123 := x.2.2.2.2.2.2.2.2.2.1
 bif (blt v123 v122) then (
  bif (inR v123 (v121.length : Int)) then (
   (f130 (x.1.1, x.2.2.2.1.1, (v121.getD v123.toNat ((0 : Int), (0 : Int), (0 : Int), (0 : Int), (0 : Int))), ())).bind fun r125 =>
   bif ((!r125.1.1) || ((beq v123 (wr ((x.2.2.2.1.1.2.2.2.2.2.2.2.1.length : Int) - (1 : Int)))) && ((bne (v121.getD v123.toNat ((0 : Int), (0 : Int), (0 : Int), (0 : Int), (0 : Int))).1 (19 : Int)) && ((bne (v121.getD v123.toNat ((0 : Int), (0 : Int), (0 : Int), (0 : Int), (0 : Int))).1 (29 : Int)) && (bne (v121.getD v123.toNat ((0 : Int), (0 : Int), (0 : Int), (0 : Int), (0 : Int))).1 (30 : Int)))))) then some (.inr (.inr ((((5 : Int), v117, v123), ()), ())))
   else some (.inl ((x.1.1, ()), (x.2.1.1, ()), v117, (x.2.2.2.1.1, ()), v118, v119, v120, v121, v122, (wr (v123 + (1 : Int))), ())))
  else none)
 else some (.inr (.inl ((x.1.1, ()), (x.2.1.1, ()), v118, v119, v120, ())))
def sh67_156 : Sh := ⟨[1, 2, 249, 250, 251], [.box 32 [.sc Y5] 0, .box 64 [.sc Y23] 0, .val (.row Y4), .val (.int .i64), .val (.int .i64)], []⟩
def outs67_156 : List (Ex × Sh) := [((.exit 12), ⟨[1, 2], [.box 32 [.sc Y5] 0, .box 64 [.sc Y23] 0], []⟩), (.ret, ⟨[2], [.box 64 [.sc Y23] 0], []⟩)]
noncomputable def f67_156 (x : (S25 × Unit) × (S26 × Unit) × (List S9) × Int × Int × Unit) : Option (((S25 × Unit) × (S26 × Unit) × (List S9) × Int × Int × Unit) ⊕ (((S25 × Unit) × (S26 × Unit) × Unit) ⊕ ((S26 × Unit) × Unit))) :=
 let v108 := x.2.2.1
 let v109 := x.2.2.2.1
 let v110 := x.2.2.2.2.1
 bif (blt v110 v109) then (
  bif (inR v110 (v108.length : Int)) then (
   bif (beq ((v108.getD v110.toNat ((⟨#[]⟩ : ByteArray), (0 : Int), (0 : Int), false, (0 : Int), ([] : List S0), ([] : List S1), ([] : List S2), ([] : List S3))).2.2.2.2.2.2.2.1.length : Int) (0 : Int)) then some (.inr (.inr ((((5 : Int), v110, (0 : Int)), ()), ())))
   else (
    let v115 := (v108.getD v110.toNat ((⟨#[]⟩ : ByteArray), (0 : Int), (0 : Int), false, (0 : Int), ([] : List S0), ([] : List S1), ([] : List S2), ([] : List S3))).2.2.2.2.2.2.2.1
    (loopF f67_176 ((x.1.1, ()), (x.2.1.1, ()), v110, ((v108.getD v110.toNat ((⟨#[]⟩ : ByteArray), (0 : Int), (0 : Int), false, (0 : Int), ([] : List S0), ([] : List S1), ([] : List S2), ([] : List S3))), ()), v108, v109, v110, v115, (v115.length : Int), (0 : Int), ())).bind fun y135 => match y135 with
     | .inl z129 => (
      some (.inl ((z129.1.1, ()), (z129.2.1.1, ()), z129.2.2.1, z129.2.2.2.1, (wr (z129.2.2.2.2.1 + (1 : Int))), ())))
     | .inr z134 => (
      some (.inr (.inr ((z134.1.1, ()), ()))))))
  else none)
 else some (.inr (.inl ((x.1.1, ()), (x.2.1.1, ()), ())))
def sh67_244 : Sh := ⟨[1, 2, 21, 22, 23, 24, 26, 308, 309, 310, 316, 317, 318, 347, 348, 349], [.box 32 [.sc Y5] 0, .box 64 [.sc Y23] 0, .own 4 .bool, .val (.int .i64), .box 71 [.sc Y4] 0, .val (.int .i64), .val .bool, .val (.row Y4), .val (.int .i64), .val (.int .i64), .val (.row Y2), .val (.int .i64), .val (.int .i64), .val (.row Y0), .val (.int .i64), .val (.int .i64)], []⟩
def outs67_244 : List (Ex × Sh) := [((.exit 20), ⟨[1, 2, 21, 22, 23, 24, 26, 308, 309, 310, 316, 317, 318], [.box 32 [.sc Y5] 0, .box 64 [.sc Y23] 0, .own 4 .bool, .val (.int .i64), .box 71 [.sc Y4] 0, .val (.int .i64), .val .bool, .val (.row Y4), .val (.int .i64), .val (.int .i64), .val (.row Y2), .val (.int .i64), .val (.int .i64)], []⟩)]
noncomputable def f67_244 (x : (S25 × Unit) × (S26 × Unit) × (List Bool) × Int × (S9 × Unit) × Int × Bool × (List S9) × Int × Int × (List S2) × Int × Int × (List S0) × Int × Int × Unit) : Option (((S25 × Unit) × (S26 × Unit) × (List Bool) × Int × (S9 × Unit) × Int × Bool × (List S9) × Int × Int × (List S2) × Int × Int × (List S0) × Int × Int × Unit) ⊕ ((S25 × Unit) × (S26 × Unit) × (List Bool) × Int × (S9 × Unit) × Int × Bool × (List S9) × Int × Int × (List S2) × Int × Int × Unit)) :=
 let v167 := x.2.2.1
 let v168 := x.2.2.2.1
 let v169 := x.2.2.2.2.2.1
 let v170 := x.2.2.2.2.2.2.1
 let v171 := x.2.2.2.2.2.2.2.1
 let v172 := x.2.2.2.2.2.2.2.2.1
 let v173 := x.2.2.2.2.2.2.2.2.2.1
 let v174 := x.2.2.2.2.2.2.2.2.2.2.1
 let v175 := x.2.2.2.2.2.2.2.2.2.2.2.1
 let v176 := x.2.2.2.2.2.2.2.2.2.2.2.2.1
 let v177 := x.2.2.2.2.2.2.2.2.2.2.2.2.2.1
 let v178 := x.2.2.2.2.2.2.2.2.2.2.2.2.2.2.1
 let v179 := x.2.2.2.2.2.2.2.2.2.2.2.2.2.2.2.1
 bif (blt v179 v178) then (
  bif (inR v179 (v177.length : Int)) then (
   (joinB (v177.getD v179.toNat (false, (0 : Int))).1 ((f126 ((v177.getD v179.toNat (false, (0 : Int))).2, (0 : Int), (wr (x.2.2.2.2.1.1.2.2.2.2.1 - (1 : Int))), ())).bind fun r182 => (some (!r182.1.1))) (some false)).bind fun c183 =>
   (joinB c183 (some true) (joinB (!(v177.getD v179.toNat (false, (0 : Int))).1) ((f126 ((v177.getD v179.toNat (false, (0 : Int))).2, (0 : Int), (wr ((x.2.2.2.2.1.1.2.2.2.2.2.1.length : Int) - (1 : Int))), ())).bind fun r184 => (some (!r184.1.1))) (some false))).bind fun c185 =>
   some (.inl ((x.1.1, ()), (x.2.1.1, ()), v167, v168, (x.2.2.2.2.1.1, ()), v169, (c185 || v170), v171, v172, v173, v174, v175, v176, v177, v178, (wr (v179 + (1 : Int))), ())))
  else none)
 else some (.inr ((x.1.1, ()), (x.2.1.1, ()), v167, v168, (x.2.2.2.2.1.1, ()), v169, v170, v171, v172, v173, v174, v175, v176, ()))
def sh67_220 : Sh := ⟨[1, 2, 21, 22, 23, 308, 309, 310, 316, 317, 318], [.box 32 [.sc Y5] 0, .box 64 [.sc Y23] 0, .own 4 .bool, .val (.int .i64), .box 71 [.sc Y4] 0, .val (.row Y4), .val (.int .i64), .val (.int .i64), .val (.row Y2), .val (.int .i64), .val (.int .i64)], []⟩
def outs67_220 : List (Ex × Sh) := [((.exit 18), ⟨[1, 2, 21, 308, 309, 310], [.box 32 [.sc Y5] 0, .box 64 [.sc Y23] 0, .own 4 .bool, .val (.row Y4), .val (.int .i64), .val (.int .i64)], []⟩), (.ret, ⟨[2], [.box 64 [.sc Y23] 0], []⟩)]
noncomputable def f67_220 (x : (S25 × Unit) × (S26 × Unit) × (List Bool) × Int × (S9 × Unit) × (List S9) × Int × Int × (List S2) × Int × Int × Unit) : Option (((S25 × Unit) × (S26 × Unit) × (List Bool) × Int × (S9 × Unit) × (List S9) × Int × Int × (List S2) × Int × Int × Unit) ⊕ (((S25 × Unit) × (S26 × Unit) × (List Bool) × (List S9) × Int × Int × Unit) ⊕ ((S26 × Unit) × Unit))) :=
 let v147 := x.2.2.1
 let v148 := x.2.2.2.1
 let v149 := x.2.2.2.2.2.1
 let v150 := x.2.2.2.2.2.2.1
 let v151 := x.2.2.2.2.2.2.2.1
 let v152 := x.2.2.2.2.2.2.2.2.1
 let v153 := x.2.2.2.2.2.2.2.2.2.1
 let v154 := x.2.2.2.2.2.2.2.2.2.2.1
 bif (blt v154 v153) then (
  bif (inR v154 (v152.length : Int)) then (
   bif (bne (v152.getD v154.toNat ((0 : Int), (0 : Int), (0 : Int), (0 : Int), (0 : Int))).1 (11 : Int)) then (
    some (.inl ((x.1.1, ()), (x.2.1.1, ()), v147, v148, (x.2.2.2.2.1.1, ()), v149, v150, v151, v152, v153, (wr (v154 + (1 : Int))), ())))
   else (
    (joinB (ble (v152.getD v154.toNat ((0 : Int), (0 : Int), (0 : Int), (0 : Int), (0 : Int))).2.2.1 v148) (some true) (bif (inR (v152.getD v154.toNat ((0 : Int), (0 : Int), (0 : Int), (0 : Int), (0 : Int))).2.2.1 (v147.length : Int)) then (some (v147.getD (v152.getD v154.toNat ((0 : Int), (0 : Int), (0 : Int), (0 : Int), (0 : Int))).2.2.1.toNat false)) else none)).bind fun c161 =>
    let v162 := (v152.getD v154.toNat ((0 : Int), (0 : Int), (0 : Int), (0 : Int), (0 : Int))).2.2.1
    bif (inR v162 (v147.length : Int)) then (
     let v164 := (v152.getD v154.toNat ((0 : Int), (0 : Int), (0 : Int), (0 : Int), (0 : Int))).2.2.1
     bif (inR v164 (x.1.1.length : Int)) then (
      let v165 := (x.1.1.getD v164.toNat ((⟨#[]⟩ : ByteArray), (0 : Int), (0 : Int), false, (0 : Int), ([] : List S0), ([] : List S1), ([] : List S2), ([] : List S3))).2.2.2.2.2.1
      (loopF f67_244 ((x.1.1, ()), (x.2.1.1, ()), (v147.set v162.toNat true), v148, (x.2.2.2.2.1.1, ()), v154, c161, v149, v150, v151, v152, v153, v154, v165, (v165.length : Int), (0 : Int), ())).bind fun z188 =>
      let v190 := z188.2.2.2.1
      bif z188.2.2.2.2.2.2.1 then (
       some (.inr (.inr ((((6 : Int), v190, z188.2.2.2.2.2.1), ()), ()))))
      else some (.inl ((z188.1.1, ()), (z188.2.1.1, ()), z188.2.2.1, v190, (z188.2.2.2.2.1.1, ()), z188.2.2.2.2.2.2.2.1, z188.2.2.2.2.2.2.2.2.1, z188.2.2.2.2.2.2.2.2.2.1, z188.2.2.2.2.2.2.2.2.2.2.1, z188.2.2.2.2.2.2.2.2.2.2.2.1, (wr (z188.2.2.2.2.2.2.2.2.2.2.2.2.1 + (1 : Int))), ())))
     else none)
    else none))
  else none)
 else some (.inr (.inl ((x.1.1, ()), (x.2.1.1, ()), v147, v149, v150, v151, ())))
def sh67_208 : Sh := ⟨[1, 2, 21, 308, 309, 310], [.box 32 [.sc Y5] 0, .box 64 [.sc Y23] 0, .own 4 .bool, .val (.row Y4), .val (.int .i64), .val (.int .i64)], []⟩
def outs67_208 : List (Ex × Sh) := [((.exit 16), ⟨[1, 2, 21], [.box 32 [.sc Y5] 0, .box 64 [.sc Y23] 0, .own 4 .bool], []⟩), (.ret, ⟨[2], [.box 64 [.sc Y23] 0], []⟩)]
noncomputable def f67_208 (x : (S25 × Unit) × (S26 × Unit) × (List Bool) × (List S9) × Int × Int × Unit) : Option (((S25 × Unit) × (S26 × Unit) × (List Bool) × (List S9) × Int × Int × Unit) ⊕ (((S25 × Unit) × (S26 × Unit) × (List Bool) × Unit) ⊕ ((S26 × Unit) × Unit))) :=
 let v140 := x.2.2.1
 let v141 := x.2.2.2.1
 let v142 := x.2.2.2.2.1
 let v143 := x.2.2.2.2.2.1
 bif (blt v143 v142) then (
  bif (inR v143 (v141.length : Int)) then (
   let v145 := (v141.getD v143.toNat ((⟨#[]⟩ : ByteArray), (0 : Int), (0 : Int), false, (0 : Int), ([] : List S0), ([] : List S1), ([] : List S2), ([] : List S3))).2.2.2.2.2.2.2.1
   (loopF f67_220 ((x.1.1, ()), (x.2.1.1, ()), v140, v143, ((v141.getD v143.toNat ((⟨#[]⟩ : ByteArray), (0 : Int), (0 : Int), false, (0 : Int), ([] : List S0), ([] : List S1), ([] : List S2), ([] : List S3))), ()), v141, v142, v143, v145, (v145.length : Int), (0 : Int), ())).bind fun y207 => match y207 with
    | .inl z200 => (
     some (.inl ((z200.1.1, ()), (z200.2.1.1, ()), z200.2.2.1, z200.2.2.2.1, z200.2.2.2.2.1, (wr (z200.2.2.2.2.2.1 + (1 : Int))), ())))
    | .inr z206 => (
     some (.inr (.inr ((z206.1.1, ()), ())))))
  else none)
 else some (.inr (.inl ((x.1.1, ()), (x.2.1.1, ()), v140, ())))
def sh67_284 : Sh := ⟨[2, 21, 388, 389], [.box 64 [.sc Y23] 0, .own 4 .bool, .val (.int .i64), .val (.int .i64)], []⟩
def outs67_284 : List (Ex × Sh) := [((.exit 22), ⟨[2], [.box 64 [.sc Y23] 0], []⟩), (.ret, ⟨[2], [.box 64 [.sc Y23] 0], []⟩)]
noncomputable def f67_284 (x : (S26 × Unit) × (List Bool) × Int × Int × Unit) : Option (((S26 × Unit) × (List Bool) × Int × Int × Unit) ⊕ (((S26 × Unit) × Unit) ⊕ ((S26 × Unit) × Unit))) :=
 let v211 := x.2.1
 let v212 := x.2.2.1
 let v213 := x.2.2.2.1
 bif (blt v213 v212) then (
  (joinB (blt (0 : Int) v213) (bif (inR v213 (v211.length : Int)) then (some (!(v211.getD v213.toNat false))) else none) (some false)).bind fun c216 =>
  bif c216 then some (.inr (.inr ((((7 : Int), v213, (0 : Int)), ()), ())))
  else some (.inl ((x.1.1, ()), v211, v212, (wr (v213 + (1 : Int))), ())))
 else some (.inr (.inl ((x.1.1, ()), ())))
def ps67 : List VS := [.val Y5]
def rs67 : List VS := [.val Y23]
noncomputable def f67 (x : S25 × Unit) : Option ((S26 × Unit) × (Unit)) :=
 let t1 := x.1
 (loopF f67_12 ((t1, ()), (((0 : Int), (0 : Int), (0 : Int)), ()), (0 : Int), t1, (t1.length : Int), (0 : Int), ())).bind fun z12 =>
 bif (((blt (z12.1.1.length : Int) (1 : Int)) || (blt (200 : Int) (z12.1.1.length : Int))) || (blt (6000 : Int) z12.2.2.1)) then some ((((1 : Int), (0 : Int), (0 : Int)), ()), ())
 else (
  (loopF f67_40 ((z12.1.1, ()), (z12.2.1.1, ()), z12.1.1, (z12.1.1.length : Int), (0 : Int), ())).bind fun y230 => match y230 with
   | .inl z39 => (
    (loopF f67_76 ((z39.1.1, ()), (z39.2.1.1, ()), z39.1.1, (z39.1.1.length : Int), (0 : Int), ())).bind fun y228 => match y228 with
     | .inl z72 => (
      (loopF f67_116 ((z72.1.1, ()), (z72.2.1.1, ()), z72.1.1, (z72.1.1.length : Int), (0 : Int), ())).bind fun y226 => match y226 with
       | .inl z106 => (
        (loopF f67_156 ((z106.1.1, ()), (z106.2.1.1, ()), z106.1.1, (z106.1.1.length : Int), (0 : Int), ())).bind fun y224 => match y224 with
         | .inl z136 => (
          let v137 := (z136.1.1.length : Int)
          bif (inE v137 ((281474976710656 : Nat) : Int)) then (
           (loopF f67_208 ((z136.1.1, ()), (z136.2.1.1, ()), (List.replicate v137.toNat false), z136.1.1, (z136.1.1.length : Int), (0 : Int), ())).bind fun y222 => match y222 with
            | .inl z208 => (
             (loopF f67_284 ((z208.2.1.1, ()), z208.2.2.1, (z208.1.1.length : Int), (0 : Int), ())).bind fun y220 => match y220 with
              | .inl _ => (
               some ((((0 : Int), (0 : Int), (0 : Int)), ()), ()))
              | .inr z219 => (
               some ((z219.1.1, ()), ())))
            | .inr z221 => (
             some ((z221.1.1, ()), ())))
          else none)
         | .inr z223 => (
          some ((z223.1.1, ()), ())))
       | .inr z225 => (
        some ((z225.1.1, ()), ())))
     | .inr z227 => (
      some ((z227.1.1, ()), ())))
   | .inr z229 => (
    some ((z229.1.1, ()), ())))
end Go.Ev.L6
