/-
  Begin: what each function computes (printed by g8.py).
-/
import Derived.Test.YtgpjfmjceamonaaGreatDoorL6
import Derived.Test.YtgpjfmjceamonaaGreatDoorL7W
namespace Go.Ev.L7
open Go.Proofs
open Go.Ev.L6 (f5 f7 f8 f10 f11 f24 f25 f27 f44 f52 f64 f72 f95)
open Go.Ev.L6 (bB)
abbrev Y0 : Ty:=.st (.pair .bool ti)
abbrev Y1 : Ty:=.st (.pair ti (.pair ti (.pair .flt (.pair .str ti))))
abbrev Y2 : Ty:=.st (.pair ti (.pair ti (.pair ti (.pair ti ti))))
abbrev Y3 : Ty:=.st (.pair .str (.pair ti (.pair ti ti)))
abbrev Y4 : Ty:=.st (.pair .str (.pair ti (.pair ti (.pair .bool (.pair ti (.pair (.row Y0) (.pair (.row Y1) (.pair (.row Y2) (.row Y3)))))))))
abbrev Y5 : Ty:=.st (.row Y4)
abbrev Y6 : Ty:=.st (.pair ti (.pair ti (.pair ti (.pair ti (.pair ti (.pair ti ti))))))
abbrev Y7 : Ty:=.st (.row Y6)
abbrev Y8 : Ty:=.st (.pair (.row Y7) ti)
abbrev Y9 : Ty:=.st (.pair (.row .str) (.pair (.row .str) (.pair ti (.pair ti ti))))
abbrev Y10 : Ty:=.st (.pair Y1 (.pair Y1 ti))
abbrev Y11 : Ty:=.st (.pair (.row Y10) ti)
abbrev Y12 : Ty:=.st (.pair ti (.pair ti (.pair ti (.pair Y11 (.pair ti (.pair .bool (.pair ti (.pair (.row ti) Y1))))))))
abbrev Y13 : Ty:=.st (.pair ti ti)
abbrev Y14 : Ty:=.st (.pair ti (.pair Y1 (.pair ti (.row Y1))))
abbrev Y15 : Ty:=.st (.pair ti (.row Y1))
abbrev Y16 : Ty:=.st (.pair .bool (.pair ti (.pair ti (.pair ti (.row Y15)))))
abbrev Y17 : Ty:=.st (.pair ti (.pair (.row Y1) .str))
abbrev Y18 : Ty:=.st (.pair ti (.pair ti (.pair ti (.pair .bool (.pair (.row Y1) (.pair ti (.pair ti (.pair ti (.pair ti (.pair ti (.pair (.row Y14) (.pair (.row Y16) (.pair .bool (.pair .bool (.pair Y17 ti)))))))))))))))
abbrev Y19 : Ty:=.st (.pair ti (.pair Y1 (.pair (.row Y18) (.pair ti (.pair .bool (.row Y1))))))
abbrev Y20 : Ty:=.st (.pair ti (.pair ti (.pair ti (.pair ti .str))))
abbrev Y21 : Ty:=.st (.pair ti (.pair (.row Y20) (.pair (.row .str) (.pair .str (.pair .str (.pair ti ti))))))
abbrev Y22 : Ty:=.st (.pair ti (.pair ti (.pair ti (.pair ti (.pair ti (.pair (.row Y12) (.pair (.row Y13) (.pair ti (.pair ti (.pair (.row Y19) (.pair ti (.pair .bool (.pair (.row Y1) (.pair Y17 (.pair .bool (.pair ti (.pair ti (.pair ti Y21))))))))))))))))))
abbrev cQ : Ty:=.st (.pair ti (.pair ti ti))
abbrev cP : Ty:=.st (.pair Y22 (.pair Y5 (.pair Y9 (.pair Y8 (.pair ti .nf)))))
abbrev cT : Ty:=.st (.pair .bool (.pair ti ti))
abbrev Y26 : Ty:=.st (.pair .bool (.pair (.row ti) (.row cT)))
abbrev Y27 : Ty:=.st (.pair ti (.pair ti (.pair ti (.pair (.row Y1) (.pair ti (.pair ti (.pair ti (.pair ti (.pair ti (.pair (.row Y14) (.pair (.row ti) (.pair (.row Y16) (.pair .bool (.pair .bool (.pair Y17 ti)))))))))))))))
abbrev Y28 : Ty:=.st (.pair ti (.pair Y1 (.pair (.row Y27) (.pair ti (.pair .bool (.row Y1))))))
abbrev Y29 : Ty:=.st (.pair .str .str)
abbrev Y30 : Ty:=.st (.pair ti (.pair ti (.row Y29)))
abbrev Y31 : Ty:=.st (.pair .bool (.pair ti (.row Y30)))
abbrev Y32 : Ty:=.st (.pair Y5 (.pair Y8 (.pair Y9 (.pair ti (.pair ti (.pair ti (.pair ti (.pair ti (.pair (.row Y12) (.pair (.row Y13) (.pair ti (.pair ti (.pair (.row Y28) (.pair ti (.pair (.row Y1) (.pair .bool (.pair Y17 (.pair .bool (.pair ti (.pair ti (.pair ti (.pair ti (.pair Y21 (.pair ti Y31))))))))))))))))))))))))
abbrev Y33 : Ty:=.st (.pair ti Y26)
abbrev Y34 : Ty:=.st (.pair ti (.pair ti (.pair ti ti)))
abbrev Z0 : DT:=.st (.pair (.fl .str) (.pair (.fl ti) (.pair (.fl ti) (.pair (.fl .bool) (.pair (.fl ti) (.pair (.row 224 (.fl Y0)) (.pair (.row 128 (.fl Y1)) (.pair (.row 118 (.fl Y2)) (.row 221 (.fl Y3))))))))))
abbrev Z1 : DT:=.st (.row 76 (.fl Y6))
abbrev Z2 : DT:=.st (.pair (.fl .str) (.pair (.fl ti) (.pair (.fl ti) (.pair (.fl .bool) (.pair (.fl ti) (.pair (.row 281 (.fl Y0)) (.pair (.row 268 (.fl Y1)) (.pair (.row 284 (.fl Y2)) (.row 270 (.fl Y3))))))))))
abbrev Z3 : DT:=.st (.pair (.row 240 (.fl Y10)) (.fl ti))
abbrev Z4 : DT:=.st (.pair (.fl ti) (.pair (.fl ti) (.pair (.fl ti) (.pair Z3 (.pair (.fl ti) (.pair (.fl .bool) (.pair (.fl ti) (.pair (.row 3 (.fl ti)) (.fl Y1)))))))))
abbrev Z5 : DT:=.st (.pair (.fl ti) (.pair (.fl Y1) (.pair (.row 169 (.fl Y27)) (.pair (.fl ti) (.pair (.fl .bool) (.fl (.row Y1)))))))
abbrev Z6 : DT:=.st (.pair (.fl ti) (.pair (.fl Y1) (.pair (.fl ti) (.row 128 (.fl Y1)))))
abbrev Z7 : DT:=.st (.pair (.fl ti) (.row 128 (.fl Y1)))
abbrev Z8 : DT:=.st (.pair (.fl .bool) (.pair (.fl ti) (.pair (.fl ti) (.pair (.fl ti) (.row 254 Z7)))))
abbrev Z9 : DT:=.st (.pair (.fl ti) (.pair (.row 128 (.fl Y1)) (.fl .str)))
abbrev Z10 : DT:=.st (.pair (.fl ti) (.pair (.fl ti) (.pair (.fl ti) (.pair (.fl .bool) (.pair (.row 128 (.fl Y1)) (.pair (.fl ti) (.pair (.fl ti) (.pair (.fl ti) (.pair (.fl ti) (.pair (.fl ti) (.pair (.row 244 Z6) (.pair (.row 250 Z8) (.pair (.fl .bool) (.pair (.fl .bool) (.pair Z9 (.fl ti))))))))))))))))
abbrev Z11 : DT:=.st (.pair (.fl ti) (.pair (.fl Y1) (.pair (.row 173 Z10) (.pair (.fl ti) (.pair (.fl .bool) (.row 128 (.fl Y1)))))))
abbrev Z12 : DT:=.st (.pair (.fl .bool) (.pair (.row 3 (.fl ti)) (.row 278 (.fl cT))))
abbrev Z13 : DT:=.st (.pair (.fl ti) Z12)
abbrev Z14 : DT:=.st (.pair (.fl ti) (.pair (.fl ti) (.row 335 (.fl Y29))))
abbrev k0 : List CS:=[.sc ti,.own 238 Y20,.own 9 .str,.sc .str,.sc .str,.sc ti,.sc ti]
abbrev k1 : List CS:=[.sc ti,.own 238 Y20,.sc (.row .str),.sc .str,.sc .str,.sc ti,.sc ti]
abbrev k2 : List CS:=[.sc ti,.sc ti,.sc ti,.own 240 Y10,.sc ti,.sc ti,.sc .bool,.sc ti,.own 3 ti,.sc ti,.sc ti,.sc .flt,.sc .str,.sc ti]
abbrev k3 : List CS:=[.sc ti,.sc ti,.sc ti,.sc .bool,.own 128 Y1,.sc ti,.sc ti,.sc ti,.sc ti,.sc ti,.own 244 Y14,.own 250 Y16,.sc .bool,.sc .bool,.sc ti,.own 128 Y1,.sc .str,.sc ti]
abbrev k4 : List CS:=[.sc .bool,.sc ti,.sc ti,.sc ti,.own 254 Y15]
abbrev k5 : List CS:=[.sc ti,.sc ti,.sc ti,.sc ti,.sc ti,.own 156 Y12,.own 159 Y13,.sc ti,.sc ti,.own 165 Y19,.sc ti,.sc .bool,.own 128 Y1,.sc ti,.own 128 Y1,.sc .str,.sc .bool,.sc ti,.sc ti,.sc ti,.sc ti,.own 238 Y20,.own 9 .str,.sc .str,.sc .str,.sc ti,.sc ti]
abbrev k6 : List CS:=[.sc ti,.sc ti,.sc ti,.sc .flt,.sc .str,.sc ti,.own 173 Y18,.sc ti,.sc .bool,.own 128 Y1]
abbrev k7 : List CS:=[.sc (.row Y4),.sc (.row Y7),.sc ti,.sc (.row .str),.sc (.row .str),.sc ti,.sc ti,.sc ti,.sc ti,.sc ti,.sc ti,.sc ti,.sc ti,.sc (.row Y12),.sc (.row Y13),.sc ti,.sc ti,.deep 162 Z5,.sc ti,.sc (.row Y1),.sc .bool,.sc ti,.sc (.row Y1),.sc .str,.sc .bool,.sc ti,.sc ti,.sc ti,.sc ti,.sc ti,.sc (.row Y20),.sc (.row .str),.sc .str,.sc .str,.sc ti,.sc ti,.sc ti,.sc .bool,.sc ti,.sc (.row Y30)]
abbrev k8 : List CS:=[.sc ti,.sc ti,.sc ti,.own 128 Y1,.sc ti,.sc ti,.sc ti,.sc ti,.sc ti,.own 242 Y14,.sc (.row ti),.own 247 Y16,.sc .bool,.sc .bool,.sc ti,.own 128 Y1,.sc .str,.sc ti]
abbrev k9 : List CS:=[.sc (.row Y4),.own 74 Y7,.sc ti,.sc (.row .str),.sc (.row .str),.sc ti,.sc ti,.sc ti,.sc ti,.sc ti,.sc ti,.sc ti,.sc ti,.own 154 Y12,.own 159 Y13,.sc ti,.sc ti,.deep 162 Z5,.sc ti,.own 128 Y1,.sc .bool,.sc ti,.own 128 Y1,.sc .str,.sc .bool,.sc ti,.sc ti,.sc ti,.sc ti,.sc ti,.own 238 Y20,.own 9 .str,.sc .str,.sc .str,.sc ti,.sc ti,.sc ti,.sc .bool,.sc ti,.deep 332 Z14]
abbrev k10 : List CS:=[.own 9 .str,.own 9 .str,.sc ti,.sc ti,.sc ti]
abbrev k11 : List CS:=[.sc ti,.sc ti,.sc ti,.sc ti,.sc ti,.own 156 Y12,.own 159 Y13,.sc ti,.sc ti,.own 165 Y19,.sc ti,.sc .bool,.own 128 Y1,.sc ti,.own 128 Y1,.sc .str,.sc .bool,.sc ti,.sc ti,.sc ti,.sc ti,.own 238 Y20,.own 9 .str,.sc .str,.sc .str,.sc ti,.sc ti,.sc (.row Y4),.sc (.row .str),.sc (.row .str),.sc ti,.sc ti,.sc ti,.deep 74 Z1,.sc ti,.sc ti,.sc .nf]
abbrev k12 : List CS:=[.sc ti,.sc ti,.sc ti,.sc ti,.sc ti,.sc (.row Y12),.sc (.row Y13),.sc ti,.sc ti,.own 165 Y19,.sc ti,.sc .bool,.sc (.row Y1),.sc ti,.sc (.row Y1),.sc .str,.sc .bool,.sc ti,.sc ti,.sc ti,.sc ti,.sc (.row Y20),.sc (.row .str),.sc .str,.sc .str,.sc ti,.sc ti,.sc (.row Y4),.sc (.row .str),.sc (.row .str),.sc ti,.sc ti,.sc ti,.sc (.row Y7),.sc ti,.sc ti,.sc .nf]
abbrev k13 : List CS:=[.sc ti,.sc ti,.sc ti,.sc .bool,.own 128 Y1,.sc ti,.sc ti,.sc ti,.sc ti,.sc ti,.sc (.row Y14),.sc (.row Y16),.sc .bool,.sc .bool,.sc ti,.sc (.row Y1),.sc .str,.sc ti]
abbrev k14 : List CS:=[.sc ti,.sc ti,.sc ti,.sc .bool,.own 128 Y1,.sc ti,.sc ti,.sc ti,.sc ti,.sc ti,.deep 244 Z6,.deep 250 Z8,.sc .bool,.sc .bool,.sc ti,.own 128 Y1,.sc .str,.sc ti]
abbrev k15 : List CS:=[.sc ti,.sc ti,.sc ti,.sc .bool,.own 128 Y1,.sc ti,.sc ti,.sc ti,.sc ti,.sc ti,.deep 244 Z6,.sc (.row Y16),.sc .bool,.sc .bool,.sc ti,.sc (.row Y1),.sc .str,.sc ti]
abbrev k16 : List CS:=[.sc ti,.sc ti,.sc ti,.sc ti,.sc ti,.deep 156 Z4,.own 159 Y13,.sc ti,.sc ti,.deep 165 Z11,.sc ti,.sc .bool,.own 128 Y1,.sc ti,.own 128 Y1,.sc .str,.sc .bool,.sc ti,.sc ti,.sc ti,.sc ti,.own 238 Y20,.own 9 .str,.sc .str,.sc .str,.sc ti,.sc ti]
abbrev k17 : List CS:=[.sc ti,.sc ti,.sc ti,.sc ti,.sc ti,.deep 156 Z4,.own 159 Y13,.sc ti,.sc ti,.sc (.row Y19),.sc ti,.sc .bool,.sc (.row Y1),.sc ti,.sc (.row Y1),.sc .str,.sc .bool,.sc ti,.sc ti,.sc ti,.sc ti,.sc (.row Y20),.sc (.row .str),.sc .str,.sc .str,.sc ti,.sc ti]
def env : Env:={ tys:=[(1,⟨.nf,8⟩),(2,⟨ti,8⟩),(3,⟨ti,8⟩),(4,⟨.bool,1⟩),(5,⟨(.int .u8),1⟩),(9,⟨.str,16⟩),(22,⟨(.row Y4),24⟩),(24,⟨Y5,24⟩),(26,⟨(.row Y7),24⟩),(28,⟨Y8,32⟩),(30,⟨(.row Y4),24⟩),(32,⟨Y5,24⟩),(39,⟨(.row .str),24⟩),(41,⟨Y9,72⟩),(43,⟨(.row Y12),24⟩),(44,⟨(.row Y13),24⟩),(45,⟨(.row Y19),24⟩),(46,⟨(.row Y1),24⟩),(48,⟨Y17,48⟩),(49,⟨(.row Y20),24⟩),(51,⟨Y21,104⟩),(53,⟨Y22,352⟩),(55,⟨Y9,72⟩),(64,⟨cQ,24⟩),(67,⟨(.row Y0),24⟩),(68,⟨(.row Y2),24⟩),(69,⟨(.row Y3),24⟩),(71,⟨Y4,144⟩),(72,⟨(.row Y6),24⟩),(74,⟨Y7,24⟩),(76,⟨Y6,56⟩),(89,⟨.np,8⟩),(93,⟨cP,496⟩),(108,⟨(.row Y0),24⟩),(109,⟨(.row Y1),24⟩),(110,⟨(.row Y2),24⟩),(111,⟨(.row Y3),24⟩),(113,⟨Y4,144⟩),(114,⟨(.row Y26),24⟩),(118,⟨Y2,40⟩),(126,⟨.flt,8⟩),(128,⟨Y1,48⟩),(137,⟨(.row Y12),24⟩),(138,⟨(.row Y28),24⟩),(140,⟨Y17,48⟩),(141,⟨(.row Y30),24⟩),(143,⟨Y31,40⟩),(145,⟨Y32,536⟩),(149,⟨(.row Y10),24⟩),(151,⟨Y11,32⟩),(152,⟨(.row ti),24⟩),(154,⟨Y12,152⟩),(156,⟨Y12,152⟩),(159,⟨Y13,16⟩),(160,⟨(.row Y27),24⟩),(162,⟨Y28,120⟩),(163,⟨(.row Y18),24⟩),(165,⟨Y19,120⟩),(166,⟨(.row Y14),24⟩),(167,⟨(.row Y16),24⟩),(169,⟨Y27,224⟩),(170,⟨(.row Y14),24⟩),(171,⟨(.row Y16),24⟩),(173,⟨Y18,208⟩),(193,⟨(.row .bool),24⟩),(196,⟨(.row cT),24⟩),(198,⟨Y26,56⟩),(207,⟨(.row Y33),24⟩),(210,⟨Y33,64⟩),(221,⟨Y3,40⟩),(224,⟨Y0,16⟩),(225,⟨(.row Y33),24⟩),(229,⟨Y33,64⟩),(236,⟨(.row (.int .u8)),24⟩),(238,⟨Y20,48⟩),(240,⟨Y10,104⟩),(242,⟨Y14,88⟩),(244,⟨Y14,88⟩),(245,⟨(.row Y15),24⟩),(247,⟨Y16,56⟩),(248,⟨(.row Y15),24⟩),(250,⟨Y16,56⟩),(252,⟨Y15,32⟩),(254,⟨Y15,32⟩),(258,⟨(.row (.row .str)),24⟩),(268,⟨Y1,48⟩),(270,⟨Y3,40⟩),(278,⟨cT,24⟩),(281,⟨Y0,16⟩),(284,⟨Y2,40⟩),(289,⟨ti,8⟩),(290,⟨Y34,32⟩),(293,⟨Y34,32⟩),(330,⟨(.row Y29),24⟩),(332,⟨Y30,40⟩),(335,⟨Y29,32⟩)],els:=[(22,113),(26,74),(30,71),(39,9),(43,156),(44,159),(45,165),(46,128),(49,238),(67,224),(68,118),(69,221),(72,76),(108,281),(109,268),(110,284),(111,270),(114,198),(137,154),(138,162),(141,332),(149,240),(152,3),(160,169),(163,173),(166,242),(167,247),(170,244),(171,250),(193,4),(196,278),(207,210),(225,229),(236,5),(245,252),(248,254),(258,39),(330,335)],flds:=[(24,[(0,1,false)]),(28,[(0,1,false),(1,1,false)]),(32,[(0,1,false)]),(41,[(0,1,false),(1,1,false),(2,1,false),(3,1,false),(4,1,false)]),(48,[(0,1,false),(1,1,false),(2,1,false)]),(51,[(0,1,false),(1,1,false),(2,1,false),(3,1,false),(4,1,false),(5,1,false),(6,1,false)]),(53,[(0,1,false),(1,1,false),(2,1,false),(3,1,false),(4,1,false),(5,1,false),(6,1,false),(7,1,false),(8,1,false),(9,1,false),(10,1,false),(11,1,false),(12,1,false),(13,3,true),(16,1,false),(17,1,false),(18,1,false),(19,1,false),(20,7,true)]),(55,[(0,1,false),(1,1,false),(2,1,false),(3,1,false),(4,1,false)]),(64,[(0,1,false),(1,1,false),(2,1,false)]),(71,[(0,1,false),(1,1,false),(2,1,false),(3,1,false),(4,1,false),(5,1,false),(6,1,false),(7,1,false),(8,1,false)]),(74,[(0,1,false)]),(76,[(0,1,false),(1,1,false),(2,1,false),(3,1,false),(4,1,false),(5,1,false),(6,1,false)]),(93,[(0,27,true),(27,1,true),(28,5,true),(33,2,true),(35,1,false),(36,1,false)]),(113,[(0,1,false),(1,1,false),(2,1,false),(3,1,false),(4,1,false),(5,1,false),(6,1,false),(7,1,false),(8,1,false)]),(118,[(0,1,false),(1,1,false),(2,1,false),(3,1,false),(4,1,false)]),(128,[(0,1,false),(1,1,false),(2,1,false),(3,1,false),(4,1,false)]),(140,[(0,1,false),(1,1,false),(2,1,false)]),(143,[(0,1,false),(1,1,false),(2,1,false)]),(145,[(0,1,true),(1,2,true),(3,5,true),(8,1,false),(9,1,false),(10,1,false),(11,1,false),(12,1,false),(13,1,false),(14,1,false),(15,1,false),(16,1,false),(17,1,false),(18,1,false),(19,1,false),(20,1,false),(21,3,true),(24,1,false),(25,1,false),(26,1,false),(27,1,false),(28,1,false),(29,7,true),(36,1,false),(37,3,true)]),(151,[(0,1,false),(1,1,false)]),(154,[(0,1,false),(1,1,false),(2,1,false),(3,2,true),(5,1,false),(6,1,false),(7,1,false),(8,1,false),(9,5,true)]),(156,[(0,1,false),(1,1,false),(2,1,false),(3,2,true),(5,1,false),(6,1,false),(7,1,false),(8,1,false),(9,5,true)]),(159,[(0,1,false),(1,1,false)]),(162,[(0,1,false),(1,5,true),(6,1,false),(7,1,false),(8,1,false),(9,1,false)]),(165,[(0,1,false),(1,5,true),(6,1,false),(7,1,false),(8,1,false),(9,1,false)]),(169,[(0,1,false),(1,1,false),(2,1,false),(3,1,false),(4,1,false),(5,1,false),(6,1,false),(7,1,false),(8,1,false),(9,1,false),(10,1,false),(11,1,false),(12,1,false),(13,1,false),(14,3,true),(17,1,false)]),(173,[(0,1,false),(1,1,false),(2,1,false),(3,1,false),(4,1,false),(5,1,false),(6,1,false),(7,1,false),(8,1,false),(9,1,false),(10,1,false),(11,1,false),(12,1,false),(13,1,false),(14,3,true),(17,1,false)]),(198,[(0,1,false),(1,1,false),(2,1,false)]),(210,[(0,1,false),(1,3,true)]),(221,[(0,1,false),(1,1,false),(2,1,false),(3,1,false)]),(224,[(0,1,false),(1,1,false)]),(229,[(0,1,false),(1,3,true)]),(238,[(0,1,false),(1,1,false),(2,1,false),(3,1,false),(4,1,false)]),(240,[(0,5,true),(5,5,true),(10,1,false)]),(242,[(0,1,false),(1,5,true),(6,1,false),(7,1,false)]),(244,[(0,1,false),(1,5,true),(6,1,false),(7,1,false)]),(247,[(0,1,false),(1,1,false),(2,1,false),(3,1,false),(4,1,false)]),(250,[(0,1,false),(1,1,false),(2,1,false),(3,1,false),(4,1,false)]),(252,[(0,1,false),(1,1,false)]),(254,[(0,1,false),(1,1,false)]),(268,[(0,1,false),(1,1,false),(2,1,false),(3,1,false),(4,1,false)]),(270,[(0,1,false),(1,1,false),(2,1,false),(3,1,false)]),(278,[(0,1,false),(1,1,false),(2,1,false)]),(281,[(0,1,false),(1,1,false)]),(284,[(0,1,false),(1,1,false),(2,1,false),(3,1,false),(4,1,false)]),(332,[(0,1,false),(1,1,false),(2,1,false)]),(335,[(0,1,false),(1,1,false)])],globs:=[(1,bB)],eqs:=[64,278],maps:=[292],imaps:=[296],arrs:=[290,293],deeps:=[] }
def envD : Env:={ env with deeps:=[(39,(.row 9 (.fl .str))),(71,Z0),(74,Z1),(113,Z2),(156,Z4),(162,Z5),(165,Z11),(173,Z10),(198,Z12),(210,Z13),(229,Z13),(244,Z6),(250,Z8),(254,Z7),(332,Z14)] }
abbrev S0:=Bool × Int
abbrev S1:=Int × Int × Nat × ByteArray × Int
abbrev S2:=Int × Int × Int × Int × Int
abbrev S3:=ByteArray × Int × Int × Int
abbrev S7:=Int × Int × Int × Int × Int × Int × Int
abbrev S8:=List S7
abbrev S9:=ByteArray × Int × Int × Bool × Int × (List S0) × (List S1) × (List S2) × List S3
abbrev lY:=Int × Int × Int × Int × ByteArray
abbrev S11:=S1 × S1 × Int
abbrev eC:=Int × S1 × Int × List S1
abbrev S14:=Int × List S1
abbrev eV:=Bool × Int × Int × Int × List S14
abbrev S16:=(List S11) × Int
abbrev cW:=Int × Int × Int × S16 × Int × Bool × Int × (List Int) × S1
abbrev jH:=Int × Int
abbrev S20:=Int × (List S1) × ByteArray
abbrev dH:=Int × Int × Int × Bool × (List S1) × Int × Int × Int × Int × Int × (List eC) × (List eV) × Bool × Bool × S20 × Int
abbrev dM:=Int × S1 × (List dH) × Int × Bool × List S1
abbrev S22:=Int × Int × Int × (List S1) × Int × Int × Int × Int × Int × (List eC) × (List Int) × (List eV) × Bool × Bool × S20 × Int
abbrev S21:=Int × S1 × (List S22) × Int × Bool × List S1
abbrev S24:=ByteArray × ByteArray
abbrev S23:=Int × Int × List S24
abbrev aN:=(List ByteArray) × (List ByteArray) × Int × Int × Int
abbrev aZ:=List S9
abbrev S27:=Int × (List lY) × (List ByteArray) × ByteArray × ByteArray × Int × Int
abbrev T0:=Int × (List lY) × (List ByteArray) × ByteArray × ByteArray × Int × Int × Unit
abbrev T1:=Int × Int × Int × (List S11) × Int × Int × Bool × Int × (List Int) × Int × Int × Nat × ByteArray × Int × Unit
abbrev T2:=Int × Int × Int × Bool × (List S1) × Int × Int × Int × Int × Int × (List eC) × (List eV) × Bool × Bool × Int × (List S1) × ByteArray × Int × Unit
abbrev T3:=Bool × Int × Int × Int × (List S14) × Unit
abbrev S29:=(List S8) × Int
abbrev S30:=Bool × Int × List S23
abbrev S28:=aZ × S29 × aN × Int × Int × Int × Int × Int × (List cW) × (List jH) × Int × Int × (List S21) × Int × (List S1) × Bool × S20 × Bool × Int × Int × Int × Int × S27 × Int × S30
abbrev T4:=Int × Int × Int × Int × Int × (List cW) × (List jH) × Int × Int × (List dM) × Int × Bool × (List S1) × Int × (List S1) × ByteArray × Bool × Int × Int × Int × Int × (List lY) × (List ByteArray) × ByteArray × ByteArray × Int × Int × Unit
abbrev T5:=Int × Int × Int × Nat × ByteArray × Int × (List dH) × Int × Bool × (List S1) × Unit
abbrev T6:=(List S9) × (List S8) × Int × (List ByteArray) × (List ByteArray) × Int × Int × Int × Int × Int × Int × Int × Int × (List cW) × (List jH) × Int × Int × (List S21) × Int × (List S1) × Bool × Int × (List S1) × ByteArray × Bool × Int × Int × Int × Int × Int × (List lY) × (List ByteArray) × ByteArray × ByteArray × Int × Int × Int × Bool × Int × (List S23) × Unit
abbrev T7:=Int × Int × Int × (List S1) × Int × Int × Int × Int × Int × (List eC) × (List Int) × (List eV) × Bool × Bool × Int × (List S1) × ByteArray × Int × Unit
abbrev S31:=Int × Int × Int × Int × Int × (List cW) × (List jH) × Int × Int × (List dM) × Int × Bool × (List S1) × S20 × Bool × Int × Int × Int × S27
abbrev T8:=(List ByteArray) × (List ByteArray) × Int × Int × Int × Unit
abbrev S32:=S31 × aZ × aN × S29 × Int × Unit
abbrev T9:=Int × Int × Int × Int × Int × (List cW) × (List jH) × Int × Int × (List dM) × Int × Bool × (List S1) × Int × (List S1) × ByteArray × Bool × Int × Int × Int × Int × (List lY) × (List ByteArray) × ByteArray × ByteArray × Int × Int × (List S9) × (List ByteArray) × (List ByteArray) × Int × Int × Int × (List S8) × Int × Int × Unit × Unit
abbrev d0 : lY:=((0 : Int),(0 : Int),(0 : Int),(0 : Int),(⟨#[]⟩ : ByteArray))
abbrev d1 : S1:=((0 : Int),(0 : Int),(0 : Nat),(⟨#[]⟩ : ByteArray),(0 : Int))
abbrev d2 : S11:=(((0 : Int),(0 : Int),(0 : Nat),(⟨#[]⟩ : ByteArray),(0 : Int)),((0 : Int),(0 : Int),(0 : Nat),(⟨#[]⟩ : ByteArray),(0 : Int)),(0 : Int))
abbrev d3 : eC:=((0 : Int),((0 : Int),(0 : Int),(0 : Nat),(⟨#[]⟩ : ByteArray),(0 : Int)),(0 : Int),([] : List S1))
abbrev d4 : eV:=(false,(0 : Int),(0 : Int),(0 : Int),([] : List S14))
abbrev d5 : S14:=((0 : Int),([] : List S1))
abbrev d6 : cW:=((0 : Int),(0 : Int),(0 : Int),(([] : List S11),(0 : Int)),(0 : Int),false,(0 : Int),([] : List Int),(0 : Int),(0 : Int),(0 : Nat),(⟨#[]⟩ : ByteArray),(0 : Int))
abbrev d7 : jH:=((0 : Int),(0 : Int))
abbrev d8 : S21:=((0 : Int),((0 : Int),(0 : Int),(0 : Nat),(⟨#[]⟩ : ByteArray),(0 : Int)),([] : List S22),(0 : Int),false,([] : List S1))
abbrev d9 : S22:=((0 : Int),(0 : Int),(0 : Int),([] : List S1),(0 : Int),(0 : Int),(0 : Int),(0 : Int),(0 : Int),([] : List eC),([] : List Int),([] : List eV),false,false,((0 : Int),([] : List S1),(⟨#[]⟩ : ByteArray)),(0 : Int))
abbrev d10 : S9:=((⟨#[]⟩ : ByteArray),(0 : Int),(0 : Int),false,(0 : Int),([] : List S0),([] : List S1),([] : List S2),([] : List S3))
abbrev d11 : dM:=((0 : Int),((0 : Int),(0 : Int),(0 : Nat),(⟨#[]⟩ : ByteArray),(0 : Int)),([] : List dH),(0 : Int),false,([] : List S1))
abbrev iJ : dH:=((0 : Int),(0 : Int),(0 : Int),false,([] : List S1),(0 : Int),(0 : Int),(0 : Int),(0 : Int),(0 : Int),([] : List eC),([] : List eV),false,false,((0 : Int),([] : List S1),(⟨#[]⟩ : ByteArray)),(0 : Int))
def put10 (xs : List S21) (i : Int) (v : (List S22)) : List S21:=xs.set i.toNat ((fun e : S21=>(u2 e v)) (xs.getD i.toNat d8))
def put11 (xs : List cW) (i : Int) (v : Int) : List cW:=xs.set i.toNat ((fun e : cW=>(v,e.2)) (xs.getD i.toNat d6))
def put12 (xs : List cW) (i : Int) (v : Int) : List cW:=xs.set i.toNat ((fun e : cW=>(e.1,v,e.2.2)) (xs.getD i.toNat d6))
def put13 (xs : List cW) (i : Int) (v : Int) : List cW:=xs.set i.toNat ((fun e : cW=>(u2 e v)) (xs.getD i.toNat d6))
def put14 (xs : List cW) (i : Int) (v : Int) : List cW:=xs.set i.toNat ((fun e : cW=>(u3 e ((g3 e).1,v))) (xs.getD i.toNat d6))
def put15 (xs : List cW) (i : Int) (v : Int) : List cW:=xs.set i.toNat ((fun e : cW=>(u4 e v)) (xs.getD i.toNat d6))
def put16 (xs : List cW) (i : Int) (v : Bool) : List cW:=xs.set i.toNat ((fun e : cW=>(u5 e v)) (xs.getD i.toNat d6))
def put17 (xs : List cW) (i : Int) (v : Int) : List cW:=xs.set i.toNat ((fun e : cW=>(u6 e v)) (xs.getD i.toNat d6))
def put18 (xs : List cW) (i : Int) (v : Int) : List cW:=xs.set i.toNat ((fun e : cW=>(u8 e v)) (xs.getD i.toNat d6))
def put19 (xs : List cW) (i : Int) (v : Int) : List cW:=xs.set i.toNat ((fun e : cW=>(u9 e v)) (xs.getD i.toNat d6))
def put20 (xs : List cW) (i : Int) (v : Nat) : List cW:=xs.set i.toNat ((fun e : cW=>(u10 e v)) (xs.getD i.toNat d6))
def put21 (xs : List cW) (i : Int) (v : ByteArray) : List cW:=xs.set i.toNat ((fun e : cW=>(u11 e v)) (xs.getD i.toNat d6))
def put22 (xs : List cW) (i : Int) (v : Int) : List cW:=xs.set i.toNat ((fun e : cW=>(e.1,e.2.1,e.2.2.1,(g3 e),(g4 e),(g5 e),(g6 e),(g7 e),(g8 e),(g9 e),(dQ e),(fF e),v)) (xs.getD i.toNat d6))
def put23 (xs : List cW) (i : Int) (v : (List Int)) : List cW:=xs.set i.toNat ((fun e : cW=>(u7 e v)) (xs.getD i.toNat d6))
def put24 (xs : List cW) (i : Int) (v : (List S11)) : List cW:=xs.set i.toNat ((fun e : cW=>(u3 e (v,(g3 e).2))) (xs.getD i.toNat d6))
def put25 (xs : List eC) (i : Int) (v : Int) : List eC:=xs.set i.toNat ((fun e : eC=>(v,e.2)) (xs.getD i.toNat d3))
def put26 (xs : List eC) (i : Int) (v : Int) : List eC:=xs.set i.toNat ((fun e : eC=>(e.1,(v,e.2.1.2),e.2.2)) (xs.getD i.toNat d3))
def put27 (xs : List eC) (i : Int) (v : Int) : List eC:=xs.set i.toNat ((fun e : eC=>(e.1,(e.2.1.1,v,e.2.1.2.2),e.2.2)) (xs.getD i.toNat d3))
def put28 (xs : List eC) (i : Int) (v : Nat) : List eC:=xs.set i.toNat ((fun e : eC=>(e.1,(u2 e.2.1 v),e.2.2)) (xs.getD i.toNat d3))
def put29 (xs : List eC) (i : Int) (v : ByteArray) : List eC:=xs.set i.toNat ((fun e : eC=>(e.1,(u3 e.2.1 v),e.2.2)) (xs.getD i.toNat d3))
def put30 (xs : List eC) (i : Int) (v : Int) : List eC:=xs.set i.toNat ((fun e : eC=>(e.1,(e.2.1.1,e.2.1.2.1,e.2.1.2.2.1,(g3 e.2.1),v),e.2.2)) (xs.getD i.toNat d3))
def put31 (xs : List eC) (i : Int) (v : Int) : List eC:=xs.set i.toNat ((fun e : eC=>(u2 e v)) (xs.getD i.toNat d3))
def put32 (xs : List eC) (i : Int) (v : (List S1)) : List eC:=xs.set i.toNat ((fun e : eC=>(e.1,e.2.1,e.2.2.1,v)) (xs.getD i.toNat d3))
def put33 (xs : List S14) (i : Int) (v : Int) : List S14:=xs.set i.toNat ((fun e : S14=>(v,e.2)) (xs.getD i.toNat d5))
def put34 (xs : List S14) (i : Int) (v : (List S1)) : List S14:=xs.set i.toNat ((fun e : S14=>(e.1,v)) (xs.getD i.toNat d5))
def put35 (xs : List eV) (i : Int) (v : Bool) : List eV:=xs.set i.toNat ((fun e : eV=>(v,e.2)) (xs.getD i.toNat d4))
def put36 (xs : List eV) (i : Int) (v : Int) : List eV:=xs.set i.toNat ((fun e : eV=>(e.1,v,e.2.2)) (xs.getD i.toNat d4))
def put37 (xs : List eV) (i : Int) (v : Int) : List eV:=xs.set i.toNat ((fun e : eV=>(u2 e v)) (xs.getD i.toNat d4))
def put38 (xs : List eV) (i : Int) (v : Int) : List eV:=xs.set i.toNat ((fun e : eV=>(u3 e v)) (xs.getD i.toNat d4))
def put39 (xs : List eV) (i : Int) (v : (List S14)) : List eV:=xs.set i.toNat ((fun e : eV=>(e.1,e.2.1,e.2.2.1,(g3 e),v)) (xs.getD i.toNat d4))
def put40 (xs : List dH) (i : Int) (v : Int) : List dH:=xs.set i.toNat ((fun e : dH=>(v,e.2)) (xs.getD i.toNat iJ))
def put41 (xs : List dH) (i : Int) (v : Int) : List dH:=xs.set i.toNat ((fun e : dH=>(e.1,v,e.2.2)) (xs.getD i.toNat iJ))
def put42 (xs : List dH) (i : Int) (v : Int) : List dH:=xs.set i.toNat ((fun e : dH=>(u2 e v)) (xs.getD i.toNat iJ))
def put43 (xs : List dH) (i : Int) (v : Bool) : List dH:=xs.set i.toNat ((fun e : dH=>(u3 e v)) (xs.getD i.toNat iJ))
def put44 (xs : List dH) (i : Int) (v : Int) : List dH:=xs.set i.toNat ((fun e : dH=>(u5 e v)) (xs.getD i.toNat iJ))
def put45 (xs : List dH) (i : Int) (v : Int) : List dH:=xs.set i.toNat ((fun e : dH=>(u6 e v)) (xs.getD i.toNat iJ))
def put46 (xs : List dH) (i : Int) (v : Int) : List dH:=xs.set i.toNat ((fun e : dH=>(u7 e v)) (xs.getD i.toNat iJ))
def put47 (xs : List dH) (i : Int) (v : Int) : List dH:=xs.set i.toNat ((fun e : dH=>(u8 e v)) (xs.getD i.toNat iJ))
def put48 (xs : List dH) (i : Int) (v : Int) : List dH:=xs.set i.toNat ((fun e : dH=>(u9 e v)) (xs.getD i.toNat iJ))
def put49 (xs : List dH) (i : Int) (v : Bool) : List dH:=xs.set i.toNat ((fun e : dH=>(u12 e v)) (xs.getD i.toNat iJ))
def put50 (xs : List dH) (i : Int) (v : Bool) : List dH:=xs.set i.toNat ((fun e : dH=>(u13 e v)) (xs.getD i.toNat iJ))
def put51 (xs : List dH) (i : Int) (v : Int) : List dH:=xs.set i.toNat ((fun e : dH=>(u14 e (v,(fE e).2))) (xs.getD i.toNat iJ))
def put52 (xs : List dH) (i : Int) (v : ByteArray) : List dH:=xs.set i.toNat ((fun e : dH=>(u14 e ((fE e).1,(fE e).2.1,v))) (xs.getD i.toNat iJ))
def put53 (xs : List dH) (i : Int) (v : Int) : List dH:=xs.set i.toNat ((fun e : dH=>(e.1,e.2.1,e.2.2.1,(g3 e),(g4 e),(g5 e),(g6 e),(g7 e),(g8 e),(g9 e),(dQ e),(fF e),(gB e),(fN e),(fE e),v)) (xs.getD i.toNat iJ))
def put54 (xs : List dH) (i : Int) (v : (List S1)) : List dH:=xs.set i.toNat ((fun e : dH=>(u14 e ((fE e).1,v,(fE e).2.2))) (xs.getD i.toNat iJ))
def put55 (xs : List dH) (i : Int) (v : (List eV)) : List dH:=xs.set i.toNat ((fun e : dH=>(u11 e v)) (xs.getD i.toNat iJ))
def put56 (xs : List dH) (i : Int) (v : (List eC)) : List dH:=xs.set i.toNat ((fun e : dH=>(u10 e v)) (xs.getD i.toNat iJ))
def put57 (xs : List dH) (i : Int) (v : (List S1)) : List dH:=xs.set i.toNat ((fun e : dH=>(u4 e v)) (xs.getD i.toNat iJ))
def put58 (xs : List dM) (i : Int) (v : Int) : List dM:=xs.set i.toNat ((fun e : dM=>(v,e.2)) (xs.getD i.toNat d11))
def put59 (xs : List dM) (i : Int) (v : Int) : List dM:=xs.set i.toNat ((fun e : dM=>(e.1,(v,e.2.1.2),e.2.2)) (xs.getD i.toNat d11))
def put60 (xs : List dM) (i : Int) (v : Int) : List dM:=xs.set i.toNat ((fun e : dM=>(e.1,(e.2.1.1,v,e.2.1.2.2),e.2.2)) (xs.getD i.toNat d11))
def put61 (xs : List dM) (i : Int) (v : Nat) : List dM:=xs.set i.toNat ((fun e : dM=>(e.1,(u2 e.2.1 v),e.2.2)) (xs.getD i.toNat d11))
def put62 (xs : List dM) (i : Int) (v : ByteArray) : List dM:=xs.set i.toNat ((fun e : dM=>(e.1,(u3 e.2.1 v),e.2.2)) (xs.getD i.toNat d11))
def put63 (xs : List dM) (i : Int) (v : Int) : List dM:=xs.set i.toNat ((fun e : dM=>(e.1,(e.2.1.1,e.2.1.2.1,e.2.1.2.2.1,(g3 e.2.1),v),e.2.2)) (xs.getD i.toNat d11))
def put64 (xs : List dM) (i : Int) (v : Int) : List dM:=xs.set i.toNat ((fun e : dM=>(u3 e v)) (xs.getD i.toNat d11))
def put65 (xs : List dM) (i : Int) (v : Bool) : List dM:=xs.set i.toNat ((fun e : dM=>(u4 e v)) (xs.getD i.toNat d11))
def put66 (xs : List dM) (i : Int) (v : (List S1)) : List dM:=xs.set i.toNat ((fun e : dM=>(e.1,e.2.1,e.2.2.1,(g3 e),(g4 e),v)) (xs.getD i.toNat d11))
def put67 (xs : List dM) (i : Int) (v : (List dH)) : List dM:=xs.set i.toNat ((fun e : dM=>(u2 e v)) (xs.getD i.toNat d11))
/-! ### loop.example/loom/laws.szStringS -/
noncomputable section
def f34_20:Lp (List ByteArray×Int×Int×Unit) (((Int×Unit)⊕(Int×Unit))):=fun x=>
 let a6:=x.1
 let left7:=x.2.1
 let i8:=x.2.2.1
 bif blt i8 a6.length then bif aE i8 a6.length then let v13:=(wr (left7 - ((a6.getD i8.toNat (⟨#[]⟩ : ByteArray)).size : Int)))
 bif blt v13 0 then some (.inr (.inr (-1,()))) else some (.inl (a6,v13,wr (i8+1),())) else none else some (.inr (.inl (left7,())))
def f34 (x:List ByteArray×Int×Unit):Option ((Int×Unit)×(Unit)):=
 let a1:=x.1
 let v4:=wr (x.2.1 - (a1.length : Int))
 bif blt v4 0 then some ((-1,()),()) else (aA f34_20 (a1,v4,0,())).bind fun y20=>match y20 with
 | .inl z16=>some ((z16.1,()),())
 | .inr z18=>some ((z18.1,()),())
def f14 (x:aN×Int×Unit):Option ((Int×Unit)×(Unit)):=
 let a1:=x.1
 (f34 (a1.1,x.2.1,())).bind fun r3=>bif blt r3.1.1 0 then some ((-1,()),()) else (f34 (a1.2.1,r3.1.1,())).bind fun r5=>bif blt r5.1.1 0 then some ((-1,()),()) else some (r5.1,())
def f78_16:Lp ((aN×Unit)×List ByteArray×Int×Int×Unit) ((((aN×Unit)×Unit)⊕(Bool×Unit))):=fun x=>
 let v6:=x.2.1
 let v7:=x.2.2.1
 let v8:=g3 x
 bif blt v8 v7 then bif aE v8 v6.length then bif blt 4000 (v6.getD v8.toNat (⟨#[]⟩ : ByteArray)).size then some (.inr (.inr (false,()))) else some (.inl (x.1,v6,v7,wr (v8+1),())) else none
 else some (.inr (.inl (x.1,())))
def f78_40:Lp ((aN×Unit)×List ByteArray×Int×Int×Unit) ((((aN×Unit)×Unit)⊕(Bool×Unit))):=fun x=>
 let v16:=x.2.1
 let v17:=x.2.2.1
 let v18:=g3 x
 bif blt v18 v17 then bif aE v18 v16.length then bif blt 4000 (v16.getD v18.toNat (⟨#[]⟩ : ByteArray)).size then some (.inr (.inr (false,()))) else some (.inl (x.1,v16,v17,wr (v18+1),()))
 else none else some (.inr (.inl (x.1,())))
def f78 (x:aN×Unit):Option ((Bool×Unit)×(Unit)):=
 let in1:=x.1
 bif (blt 200 in1.1.length)||(blt 200 in1.2.1.length) then some ((false,()),()) else (aA f78_16 ((in1,()),in1.1,(in1.1.length : Int),0,())).bind fun y36=>match y36 with
 | .inl z14=>(
 (aA f78_40 (z14.1,z14.1.1.2.1,(z14.1.1.2.1.length : Int),0,())).bind fun y33=>match y33 with
 | .inl z24=>some (((((((ble 0 z24.1.1.2.2.1)&&(ble z24.1.1.2.2.1 5000))&&(ble 1 (g3 z24.1.1)))&&(ble (g3 z24.1.1) 60))&&(ble 0 (t4 z24.1.1)))&&(ble (t4 z24.1.1) 20000),()),())
 | .inr z31=>some ((z31.1,()),()))
 | .inr z34=>some ((z34.1,()),())
def f35 (x:aZ×aN×Int×Unit):Option ((Bool×Unit)×(Unit)):=
 let pace3:=x.2.2.1
 (f24 (x.1,())).bind fun r4=>(bK (beq r4.1.1.1 0) ((f78 (x.2.1,())).bind fun r6=>(some r6.1.1)) (some false)).bind fun c7=>some (((c7&&(ble 0 pace3))&&(ble pace3 1000),()),())
def f79_16:Lp ((S27×Unit)×T0×T0×List lY×Int×Int×Unit) (((S27×Unit)×T0×T0×Unit)):=fun x=>
 let v3:=g3 x
 let v4:=g4 x
 let v5:=g5 x
 bif blt v5 v4 then bif aE v5 v3.length then let row7:=([v3.getD v5.toNat d0])
 bif cN (x.2.2.1.2.1.length+row7.length) 2932031007402 then some (.inl (x.1,x.2.1,u1 x.2.2.1 (x.2.2.1.2.1++row7),v3,v4,wr (v5+1),())) else none else none
 else some (.inr (x.1,x.2.1,x.2.2.1,()))
def f79_40:Lp (T0×T0×List ByteArray×Int×Int×Unit) (T0×T0×Unit):=fun x=>
 let v12:=x.2.2.1
 let v13:=g3 x
 let v14:=g4 x
 bif blt v14 v13 then bif aE v14 v12.length then let v16:=(v12.getD v14.toNat (⟨#[]⟩ : ByteArray))
 bif cN (x.2.1.2.2.1.length+([v16]).length) 8796093022208 then some (.inl (x.1,u2 x.2.1 (x.2.1.2.2.1++([v16])),v12,v13,wr (v14+1),())) else none else none else some (.inr (x.1,x.2.1,()))
def f79 (x:S27×Unit):Option ((T0×Unit)×(Unit)):=
 let r1:=x.1
 (aA f79_16 ((r1,()),(0,([] : List lY),([] : List ByteArray),(⟨#[]⟩ : ByteArray),(⟨#[]⟩ : ByteArray),0,0,()),(r1.1,([] : List lY),r1.2.2.1,g3 r1,g4 r1,g5 r1,t6 r1,()),r1.2.1,(r1.2.1.length : Int),0,())).bind fun z10=>
 (aA f79_40 (z10.2.1,u2 z10.2.2.1 ([] : List ByteArray),z10.1.1.2.2.1,(z10.1.1.2.2.1.length : Int),0,())).bind fun z20=>some ((z20.2.1,()),())
def f80_12:Lp (List S1×List S1×Int×Int×Unit) (List S1×Unit):=fun x=>
 let out3:=x.1
 let v4:=x.2.1
 let v5:=x.2.2.1
 let v6:=g3 x
 bif blt v6 v5 then bif aE v6 v4.length then let row8:=([v4.getD v6.toNat d1])
 bif cN (out3.length+row8.length) 2932031007402 then some (.inl (out3++row8,v4,v5,wr (v6+1),())) else none else none else some (.inr (out3,()))
def f80 (x:List S1×Unit):Option ((List S1×Unit)×(Unit)):=
 let a1:=x.1
 (aA f80_12 (([] : List S1),a1,(a1.length : Int),0,())).bind fun z11=>some ((z11.1,()),())
def f81 (x:S20×Unit):Option (((Int×List S1×ByteArray×Unit)×Unit)×(Unit)):=
 let w1:=x.1
 (f80 (w1.2.1,())).bind fun r2=>some (((w1.1,r2.1.1,w1.2.2,()),()),())
def f82_16:Lp ((cW×Unit)×T1×T1×List S11×Int×Int×Unit) (((cW×Unit)×T1×T1×Unit)):=fun x=>
 let v3:=g3 x
 let v4:=g4 x
 let v5:=g5 x
 bif blt v5 v4 then bif aE v5 v3.length then let row7:=([v3.getD v5.toNat d2])
 bif cN ((g3 x.2.2.1).length+row7.length) 1353245080339 then some (.inl (x.1,x.2.1,u3 x.2.2.1 ((g3 x.2.2.1)++row7),v3,v4,wr (v5+1),())) else none else none
 else some (.inr (x.1,x.2.1,x.2.2.1,()))
def f82_36:Lp (T1×T1×List Int×Int×Int×Unit) (T1×T1×Unit):=fun x=>
 let v12:=x.2.2.1
 let v13:=g3 x
 let v14:=g4 x
 bif blt v14 v13 then bif aE v14 v12.length then let v16:=(v12.getD v14.toNat (0 : Int))
 bif cN ((g8 x.2.1).length+([v16]).length) 17592186044416 then some (.inl (x.1,u8 x.2.1 ((g8 x.2.1)++([v16])),v12,v13,wr (v14+1),())) else none else none else some (.inr (x.1,x.2.1,()))
def f82 (x:cW×Unit):Option ((T1×Unit)×(Unit)):=
 let s1:=x.1
 (aA f82_16 ((s1,()),(0,0,0,([] : List S11),0,0,false,0,([] : List Int),0,0,(0 : Nat),(⟨#[]⟩ : ByteArray),0,()),(s1.1,s1.2.1,s1.2.2.1,([] : List S11),(g3 s1).2,g4 s1,g5 s1,g6 s1,([] : List Int),g8 s1,g9 s1,dQ s1,fF s1,t12 s1,()),(g3 s1).1,((g3 s1).1.length : Int),0,())).bind fun z10=>
 (aA f82_36 (z10.2.1,z10.2.2.1,g7 z10.1.1,((g7 z10.1.1).length : Int),0,())).bind fun z20=>some ((z20.2.1,()),())
def f83_76:Lp ((S22×Unit)×T2×T2×List eC×Int×Int×Unit) (((S22×Unit)×T2×T2×Unit)):=fun x=>
 let v9:=g3 x
 let v10:=g4 x
 let v11:=g5 x
 bif blt v11 v10 then bif aE v11 v9.length then let v13:=(v9.getD v11.toNat d3).1
 let v14:=(v9.getD v11.toNat d3).1
 bif beq v14 1 then let row16:=([(v13,(v9.getD v11.toNat d3).2.1,0,([] : List S1))])
 bif cN ((dQ x.2.2.1).length+row16.length) 1599289640401 then some (.inl (x.1,x.2.1,u10 x.2.2.1 ((dQ x.2.2.1)++row16),v9,v10,wr (v11+1),())) else none
 else bif beq v14 2 then let row21:=([(v13,(0,0,(0 : Nat),(⟨#[]⟩ : ByteArray),0),(v9.getD v11.toNat d3).2.2.1,([] : List S1))])
 bif cN ((dQ x.2.2.1).length+row21.length) 1599289640401 then some (.inl (x.1,x.2.1,u10 x.2.2.1 ((dQ x.2.2.1)++row21),v9,v10,wr (v11+1),())) else none
 else bif beq v14 3 then (f80 ((v9.getD v11.toNat d3).2.2.2,())).bind fun r26=>let row27:=[(v13,((0 : Int),(0 : Int),(0 : Nat),(⟨#[]⟩ : ByteArray),(0 : Int)),(0 : Int),r26.1.1)]
 bif cN ((dQ x.2.2.1).length+row27.length) 1599289640401 then some (.inl (x.1,x.2.1,u10 x.2.2.1 ((dQ x.2.2.1)++row27),v9,v10,wr (v11+1),())) else none
 else let row30:=([(v13,(0,0,(0 : Nat),(⟨#[]⟩ : ByteArray),0),0,([] : List S1))])
 bif cN ((dQ x.2.2.1).length+row30.length) 1599289640401 then some (.inl (x.1,x.2.1,u10 x.2.2.1 ((dQ x.2.2.1)++row30),v9,v10,wr (v11+1),())) else none else none
 else some (.inr (x.1,x.2.1,x.2.2.1,()))
def f83_144:Lp (T2×T2×T3×List eV×Int×Int×List S14×Int×Int×Unit) (T2×T2×T3×List eV×Int×Int×Unit):=fun x=>
 let v45:=g3 x
 let v46:=g4 x
 let v47:=g5 x
 let v48:=g6 x
 let v49:=g7 x
 let v50:=g8 x
 bif blt v50 v49 then bif aE v50 v48.length then (f80 ((v48.getD v50.toNat d5).2,())).bind fun r54=>let row55:=[((v48.getD v50.toNat d5).1,r54.1.1)]
 bif cN ((g4 x.2.2.1).length+row55.length) 4398046511104 then some (.inl (x.1,x.2.1,u4 x.2.2.1 ((g4 x.2.2.1)++row55),v45,v46,v47,v48,v49,wr (v50+1),())) else none else none
 else some (.inr (x.1,x.2.1,x.2.2.1,v45,v46,v47,()))
def f83_128:Lp (T2×T2×List eV×Int×Int×Unit) (T2×T2×Unit):=fun x=>
 let v35:=x.2.2.1
 let v36:=g3 x
 let v37:=g4 x
 bif blt v37 v36 then bif aE v37 v35.length then let v43:=(t4 (v35.getD v37.toNat d4))
 (aA f83_144 (x.1,x.2.1,((v35.getD v37.toNat d4).1,(v35.getD v37.toNat d4).2.1,(v35.getD v37.toNat d4).2.2.1,g3 (v35.getD v37.toNat d4),([] : List S14),()),v35,v36,v37,v43,(v43.length : Int),0,())).bind fun z58=>
 let row62:=[(z58.2.2.1.1,z58.2.2.1.2.1,z58.2.2.1.2.2.1,g3 z58.2.2.1,g4 z58.2.2.1)]
 bif cN ((fF z58.2.1).length+row62.length) 2513169434916 then some (.inl (z58.1,u11 z58.2.1 ((fF z58.2.1)++row62),g3 z58,g4 z58,wr ((g5 z58)+1),())) else none else none
 else some (.inr (x.1,x.2.1,()))
def f83 (x:S22×Unit):Option ((T2×Unit)×(Unit)):=
 let t1:=x.1
 (f80 (g3 t1,())).bind fun r2=>
 bif beq t1.1 2 then some (((t1.1,t1.2.1,t1.2.2.1,false,r2.1.1,0,0,0,0,0,([] : List eC),([] : List eV),false,false,0,([] : List S1),(⟨#[]⟩ : ByteArray),0,()),()),())
 else bif beq t1.1 3 then some (((t1.1,0,t1.2.2.1,beq t1.2.1 1,r2.1.1,0,0,0,0,0,([] : List eC),([] : List eV),false,false,0,([] : List S1),(⟨#[]⟩ : ByteArray),0,()),()),())
 else bif beq t1.1 1 then bif gB t1 then (f81 (fE t1,())).bind fun r7=>
 (aA f83_76 ((t1,()),(0,0,0,false,([] : List S1),0,0,0,0,0,([] : List eC),([] : List eV),false,false,0,([] : List S1),(⟨#[]⟩ : ByteArray),0,()),(t1.1,0,t1.2.2.1,false,r2.1.1,g4 t1,g5 t1,g6 t1,g7 t1,g8 t1,([] : List eC),([] : List eV),true,fN t1,r7.1.1.1,r7.1.1.2.1,r7.1.1.2.2.1,t15 t1,()),g9 t1,((g9 t1).length : Int),0,())).bind fun z33=>
 (aA f83_128 (z33.2.1,z33.2.2.1,fF z33.1.1,((fF z33.1.1).length : Int),0,())).bind fun z65=>some ((z65.2.1,()),())
 else (aA f83_76 ((t1,()),(0,0,0,false,([] : List S1),0,0,0,0,0,([] : List eC),([] : List eV),false,false,0,([] : List S1),(⟨#[]⟩ : ByteArray),0,()),(t1.1,0,t1.2.2.1,false,r2.1.1,g4 t1,g5 t1,g6 t1,g7 t1,0,([] : List eC),([] : List eV),false,false,0,([] : List S1),(⟨#[]⟩ : ByteArray),t15 t1,()),g9 t1,((g9 t1).length : Int),0,())).bind fun z67=>
 (aA f83_128 (z67.2.1,z67.2.2.1,fF z67.1.1,((fF z67.1.1).length : Int),0,())).bind fun z69=>some ((z69.2.1,()),())
 else some (((t1.1,0,t1.2.2.1,false,r2.1.1,0,0,0,0,0,([] : List eC),([] : List eV),false,false,0,([] : List S1),(⟨#[]⟩ : ByteArray),0,()),()),())
def f36_20:Lp ((S28×Unit)×T4×T4×List cW×Int×Int×Unit) (((S28×Unit)×T4×T4×Unit)):=fun x=>
 let v5:=g3 x
 let v6:=g4 x
 let v7:=g5 x
 bif blt v7 v6 then bif aE v7 v5.length then (f82 (v5.getD v7.toNat d6,())).bind fun r9=>
 let row10:=[(r9.1.1.1,r9.1.1.2.1,r9.1.1.2.2.1,(g3 r9.1.1,g4 r9.1.1),g5 r9.1.1,g6 r9.1.1,g7 r9.1.1,g8 r9.1.1,g9 r9.1.1,dQ r9.1.1,fF r9.1.1,gB r9.1.1,fN r9.1.1)]
 bif cN ((g5 x.2.2.1).length+row10.length) 925904528653 then some (.inl (x.1,x.2.1,u5 x.2.2.1 ((g5 x.2.2.1)++row10),v5,v6,wr (v7+1),())) else none else none
 else some (.inr (x.1,x.2.1,x.2.2.1,()))
def f36_40:Lp ((S28×Unit)×T4×T4×List jH×Int×Int×Unit) (((S28×Unit)×T4×T4×Unit)):=fun x=>
 let v15:=g3 x
 let v16:=g4 x
 let v17:=g5 x
 bif blt v17 v16 then bif aE v17 v15.length then let row19:=([v15.getD v17.toNat d7])
 bif cN ((g6 x.2.2.1).length+row19.length) 8796093022208 then some (.inl (x.1,x.2.1,u6 x.2.2.1 ((g6 x.2.2.1)++row19),v15,v16,wr (v17+1),())) else none else none
 else some (.inr (x.1,x.2.1,x.2.2.1,()))
def f36_76:Lp ((S28×Unit)×T4×T4×T5×List S21×Int×Int×List S22×Int×Int×Unit) (((S28×Unit)×T4×T4×T5×List S21×Int×Int×Unit)):=fun x=>
 let v35:=g4 x
 let v36:=g5 x
 let v37:=g6 x
 let v38:=g7 x
 let v39:=g8 x
 let v40:=g9 x
 bif blt v40 v39 then bif aE v40 v38.length then (f83 (v38.getD v40.toNat d9,())).bind fun r42=>
 let row43:=[(r42.1.1.1,r42.1.1.2.1,r42.1.1.2.2.1,g3 r42.1.1,g4 r42.1.1,g5 r42.1.1,g6 r42.1.1,g7 r42.1.1,g8 r42.1.1,g9 r42.1.1,dQ r42.1.1,fF r42.1.1,gB r42.1.1,fN r42.1.1,(fE r42.1.1,jR r42.1.1,kM r42.1.1),iM r42.1.1)]
 bif cN ((g6 (g3 x)).length+row43.length) 676622540169 then some (.inl (x.1,x.2.1,x.2.2.1,u6 (g3 x) ((g6 (g3 x))++row43),v35,v36,v37,v38,v39,wr (v40+1),())) else none else none
 else some (.inr (x.1,x.2.1,x.2.2.1,g3 x,v35,v36,v37,()))
def f36_60:Lp ((S28×Unit)×T4×T4×List S21×Int×Int×Unit) (((S28×Unit)×T4×T4×Unit)):=fun x=>
 let v24:=g3 x
 let v25:=g4 x
 let v26:=g5 x
 bif blt v26 v25 then bif aE v26 v24.length then (f80 (t5 (v24.getD v26.toNat d8),())).bind fun r32=>let v33:=(v24.getD v26.toNat d8).2.2.1
 (aA f36_76 (x.1,x.2.1,x.2.2.1,((v24.getD v26.toNat d8).1,(v24.getD v26.toNat d8).2.1.1,(v24.getD v26.toNat d8).2.1.2.1,(v24.getD v26.toNat d8).2.1.2.2.1,g3 (v24.getD v26.toNat d8).2.1,t4 (v24.getD v26.toNat d8).2.1,([] : List dH),g3 (v24.getD v26.toNat d8),g4 (v24.getD v26.toNat d8),r32.1.1,()),v24,v25,v26,v33,(v33.length : Int),0,())).bind fun z46=>
 let row50:=[((g3 z46).1,((g3 z46).2.1,(g3 z46).2.2.1,g3 (g3 z46),g4 (g3 z46),g5 (g3 z46)),g6 (g3 z46),g7 (g3 z46),g8 (g3 z46),g9 (g3 z46))]
 bif cN ((g9 z46.2.2.1).length+row50.length) 1172812402961 then some (.inl (z46.1,z46.2.1,u9 z46.2.2.1 ((g9 z46.2.2.1)++row50),g4 z46,g5 z46,wr ((g6 z46)+1),())) else none else none
 else some (.inr (x.1,x.2.1,x.2.2.1,()))
def f36 (x:(S28×Unit)×Unit):Option ((T4×Unit)×((S28×Unit)×Unit)):=
 bif iM x.1.1 then (f79 (g22 x.1.1,())).bind fun r1=>
 some (((g3 x.1.1,0,0,0,0,([] : List cW),([] : List jH),dQ x.1.1,fF x.1.1,([] : List dM),0,false,([] : List S1),0,([] : List S1),(⟨#[]⟩ : ByteArray),true,0,0,g20 x.1.1,r1.1.1.1,r1.1.1.2.1,r1.1.1.2.2.1,g3 r1.1.1,g4 r1.1.1,g5 r1.1.1,g6 r1.1.1,()),()),x.1,())
 else (f80 (fE x.1.1,())).bind fun r2=>(f81 (kM x.1.1,())).bind fun r3=>
 (aA f36_20 (x.1,(0,0,0,0,0,([] : List cW),([] : List jH),0,0,([] : List dM),0,false,([] : List S1),0,([] : List S1),(⟨#[]⟩ : ByteArray),false,0,0,0,0,([] : List lY),([] : List ByteArray),(⟨#[]⟩ : ByteArray),(⟨#[]⟩ : ByteArray),0,0,()),(g3 x.1.1,g4 x.1.1,g5 x.1.1,g6 x.1.1,g7 x.1.1,([] : List cW),([] : List jH),dQ x.1.1,fF x.1.1,([] : List dM),fN x.1.1,jR x.1.1,r2.1.1,r3.1.1.1,r3.1.1.2.1,r3.1.1.2.2.1,false,g18 x.1.1,g19 x.1.1,g20 x.1.1,0,([] : List lY),([] : List ByteArray),(⟨#[]⟩ : ByteArray),(⟨#[]⟩ : ByteArray),0,0,()),g8 x.1.1,((g8 x.1.1).length : Int),0,())).bind fun z13=>
 (aA f36_40 (z13.1,z13.2.1,z13.2.2.1,g9 z13.1.1,((g9 z13.1.1).length : Int),0,())).bind fun z22=>
 (aA f36_60 (z22.1,z22.2.1,z22.2.2.1,gB z22.1.1,((gB z22.1.1).length : Int),0,())).bind fun z53=>(f79 (g22 z53.1.1,())).bind fun r54=>
 some ((u26 (u25 (u24 (u23 (u22 (u21 (u20 z53.2.2.1 r54.1.1.1) r54.1.1.2.1) r54.1.1.2.2.1) (g3 r54.1.1)) (g4 r54.1.1)) (g5 r54.1.1)) (g6 r54.1.1),()),z53.1,())
def f84 (x:ByteArray×Unit):Option ((S1×Unit)×(Unit)):=
 some (((4,0,(0 : Nat),x.1,0),()),())
def f139 (x:List S1×Int×Unit):Option ((S1×Unit)×(Unit)):=
 let list1:=x.1
 let i2:=x.2.1
 bif ble list1.length i2 then some (((0,0,(0 : Nat),(⟨#[]⟩ : ByteArray),0),()),()) else bif aE i2 list1.length then some ((list1.getD i2.toNat d1,()),()) else none
def f140_12:Lp (List S1×List S1×List S1×Int×Int×Unit) (List S1×List S1×Unit):=fun x=>
 let b4:=x.1
 let out5:=x.2.1
 let v6:=x.2.2.1
 let v7:=g3 x
 let v8:=g4 x
 bif blt v8 v7 then bif aE v8 v6.length then let row10:=([v6.getD v8.toNat d1])
 bif cN (out5.length+row10.length) 2932031007402 then some (.inl (b4,out5++row10,v6,v7,wr (v8+1),())) else none else none else some (.inr (b4,out5,()))
def f140_32:Lp (List S1×List S1×Int×Int×Unit) (List S1×Unit):=fun x=>
 let out17:=x.1
 let v18:=x.2.1
 let v19:=x.2.2.1
 let v20:=g3 x
 bif blt v20 v19 then bif aE v20 v18.length then let row22:=([v18.getD v20.toNat d1])
 bif cN (out17.length+row22.length) 2932031007402 then some (.inl (out17++row22,v18,v19,wr (v20+1),())) else none else none else some (.inr (out17,()))
def f140 (x:List S1×List S1×Unit):Option ((List S1×Unit)×(Unit)):=
 let a1:=x.1
 (aA f140_12 (x.2.1,([] : List S1),a1,(a1.length : Int),0,())).bind fun z13=>let b14:=z13.1
 (aA f140_32 (z13.2.1,b14,(b14.length : Int),0,())).bind fun z25=>some ((z25.1,()),())
def f141 (x:T6×S22×Unit):Option ((Unit)×(T6×Unit)):=
 let it1:=x.2.1
 bif aE (g18 x.1) (iM x.1).length then bif cN (((iM x.1).getD (g18 x.1).toNat d8).2.2.1.length+([it1]).length) 628292358729 then bif aE (g18 x.1) (iM x.1).length then bif beq (g18 x.1) (g18 x.1) then some ((),u17 x.1 (put10 (iM x.1) (g18 x.1) (((iM x.1).getD (g18 x.1).toNat d8).2.2.1++([it1]))),())
 else none else none else none else none
def f85_20:Lp (T6×List S1×(S9×Unit)×T7×Int×Unit) ((T6×List S1×(S9×Unit)×T7×Unit)):=fun x=>
 let args8:=x.2.1
 let i9:=g4 x
 bif blt i9 x.2.2.1.1.2.2.1 then (f139 (args8,i9,())).bind fun r11=>
 bif aE i9 (g9 (g3 x)).length then some (.inl (x.1,args8,x.2.2.1,u9 (g3 x) ((g9 (g3 x)).set i9.toNat (1,r11.1.1,0,([] : List S1))),wr (i9+1),())) else none
 else some (.inr (x.1,args8,x.2.2.1,g3 x,()))
def f85 (x:T6×Int×Int×List S1×Unit):Option ((Unit)×(T6×Unit)):=
 let proto1:=x.2.1
 let ref2:=x.2.2.1
 let args3:=g3 x
 bif aE proto1 x.1.1.length then let v4:=(g4 (x.1.1.getD proto1.toNat d10))
 bif inE v4 (3198579280802 : Nat) then let row5:=(List.replicate v4.toNat d3)
 bif ble 0 ref2 then bif aE ref2 (fN x.1).length then (aA f85_20 (x.1,args3,(x.1.1.getD proto1.toNat d10,()),(1,0,0,([] : List S1),proto1,ref2,0,0,0,row5,g7 ((fN x.1).getD ref2.toNat d6),([] : List eV),false,false,0,([] : List S1),(⟨#[]⟩ : ByteArray),-1,()),0,())).bind fun z14=>
 let args15:=z14.2.1
 bif g3 z14.2.2.1.1 then bif blt z14.2.2.1.1.2.2.1 args15.length then bif inE z14.2.2.1.1.2.2.1 args15.length then (f140 (args15.drop z14.2.2.1.1.2.2.1.toNat,([] : List S1),())).bind fun r19=>
 bif aE z14.2.2.1.1.2.2.1 (g9 (g3 z14)).length then (f141 (z14.1,((g3 z14).1,(g3 z14).2.1,(g3 z14).2.2.1,g3 (g3 z14),g4 (g3 z14),g5 (g3 z14),g6 (g3 z14),g7 (g3 z14),g8 (g3 z14),(g9 (g3 z14)).set z14.2.2.1.1.2.2.1.toNat (3,(0,0,(0 : Nat),(⟨#[]⟩ : ByteArray),0),0,r19.1.1),dQ (g3 z14),fF (g3 z14),gB (g3 z14),fN (g3 z14),(fE (g3 z14),jR (g3 z14),kM (g3 z14)),iM (g3 z14)),())).bind fun r21=>
 some ((),r21.2.1,()) else none else none
 else bif aE z14.2.2.1.1.2.2.1 (g9 (g3 z14)).length then (f141 (z14.1,((g3 z14).1,(g3 z14).2.1,(g3 z14).2.2.1,g3 (g3 z14),g4 (g3 z14),g5 (g3 z14),g6 (g3 z14),g7 (g3 z14),g8 (g3 z14),(g9 (g3 z14)).set z14.2.2.1.1.2.2.1.toNat (3,(0,0,(0 : Nat),(⟨#[]⟩ : ByteArray),0),0,([] : List S1)),dQ (g3 z14),fF (g3 z14),gB (g3 z14),fN (g3 z14),(fE (g3 z14),jR (g3 z14),kM (g3 z14)),iM (g3 z14)),())).bind fun r23=>
 some ((),r23.2.1,()) else none
 else (f141 (z14.1,((g3 z14).1,(g3 z14).2.1,(g3 z14).2.2.1,g3 (g3 z14),g4 (g3 z14),g5 (g3 z14),g6 (g3 z14),g7 (g3 z14),g8 (g3 z14),g9 (g3 z14),dQ (g3 z14),fF (g3 z14),gB (g3 z14),fN (g3 z14),(fE (g3 z14),jR (g3 z14),kM (g3 z14)),iM (g3 z14)),())).bind fun r24=>
 some ((),r24.2.1,()) else none
 else (aA f85_20 (x.1,args3,(x.1.1.getD proto1.toNat d10,()),(1,0,0,([] : List S1),proto1,ref2,0,0,0,row5,([] : List Int),([] : List eV),false,false,0,([] : List S1),(⟨#[]⟩ : ByteArray),-1,()),0,())).bind fun z25=>
 let args26:=z25.2.1
 bif g3 z25.2.2.1.1 then bif blt z25.2.2.1.1.2.2.1 args26.length then bif inE z25.2.2.1.1.2.2.1 args26.length then (f140 (args26.drop z25.2.2.1.1.2.2.1.toNat,([] : List S1),())).bind fun r30=>
 bif aE z25.2.2.1.1.2.2.1 (g9 (g3 z25)).length then (f141 (z25.1,((g3 z25).1,(g3 z25).2.1,(g3 z25).2.2.1,g3 (g3 z25),g4 (g3 z25),g5 (g3 z25),g6 (g3 z25),g7 (g3 z25),g8 (g3 z25),(g9 (g3 z25)).set z25.2.2.1.1.2.2.1.toNat (3,(0,0,(0 : Nat),(⟨#[]⟩ : ByteArray),0),0,r30.1.1),dQ (g3 z25),fF (g3 z25),gB (g3 z25),fN (g3 z25),(fE (g3 z25),jR (g3 z25),kM (g3 z25)),iM (g3 z25)),())).bind fun r32=>
 some ((),r32.2.1,()) else none else none
 else bif aE z25.2.2.1.1.2.2.1 (g9 (g3 z25)).length then (f141 (z25.1,((g3 z25).1,(g3 z25).2.1,(g3 z25).2.2.1,g3 (g3 z25),g4 (g3 z25),g5 (g3 z25),g6 (g3 z25),g7 (g3 z25),g8 (g3 z25),(g9 (g3 z25)).set z25.2.2.1.1.2.2.1.toNat (3,(0,0,(0 : Nat),(⟨#[]⟩ : ByteArray),0),0,([] : List S1)),dQ (g3 z25),fF (g3 z25),gB (g3 z25),fN (g3 z25),(fE (g3 z25),jR (g3 z25),kM (g3 z25)),iM (g3 z25)),())).bind fun r34=>
 some ((),r34.2.1,()) else none
 else (f141 (z25.1,((g3 z25).1,(g3 z25).2.1,(g3 z25).2.2.1,g3 (g3 z25),g4 (g3 z25),g5 (g3 z25),g6 (g3 z25),g7 (g3 z25),g8 (g3 z25),g9 (g3 z25),dQ (g3 z25),fF (g3 z25),gB (g3 z25),fN (g3 z25),(fE (g3 z25),jR (g3 z25),kM (g3 z25)),iM (g3 z25)),())).bind fun r35=>
 some ((),r35.2.1,()) else none else none
def f37_20:Lp (T6×List S1×List ByteArray×Int×Int×Unit) (T6×List S1×Unit):=fun x=>
 let args8:=x.2.1
 let v9:=x.2.2.1
 let v10:=g3 x
 let v11:=g4 x
 bif blt v11 v10 then bif aE v11 v9.length then (f84 (v9.getD v11.toNat (⟨#[]⟩ : ByteArray),())).bind fun r14=>
 bif cN (args8.length+([r14.1.1]).length) 2932031007402 then some (.inl (x.1,args8++([r14.1.1]),v9,v10,wr (v11+1),())) else none else none else some (.inr (x.1,args8,()))
def f37 (x:aZ×aN×Int×Int×Unit):Option ((T6×Unit)×(Unit)):=
 let c1:=x.1
 let in2:=x.2.1
 (f25 (c1,())).bind fun r5=>
 bif inE r5.1.1.2.1 (17592186044416 : Nat) then (aA f37_20 ((c1,r5.1.1.1,r5.1.1.2.1,in2.1,in2.2.1,in2.2.2.1,g3 in2,t4 in2,x.2.2.1,0,0,0,0,([] : List cW),List.replicate r5.1.1.2.1.toNat d7,0,0,([] : List S21),0,([] : List S1),false,0,([] : List S1),(⟨#[]⟩ : ByteArray),false,0,0,0,0,0,([] : List lY),([] : List ByteArray),(⟨#[]⟩ : ByteArray),(⟨#[]⟩ : ByteArray),0,0,g3 x,false,0,([] : List S23),()),([] : List S1),in2.1,(in2.1.length : Int),0,())).bind fun z18=>
 let row20:=[((2 : Int),((0 : Int),(0 : Int),(0 : Nat),(⟨#[]⟩ : ByteArray),(0 : Int)),([] : List S22),(-1 : Int),false,([] : List S1))]
 bif cN ((iM z18.1).length+row20.length) 1172812402961 then (f85 (u17 z18.1 ((iM z18.1)++row20),0,-1,z18.2.1,())).bind fun r22=>some ((r22.2.1,()),()) else none else none
def f15 (x:aZ×aN×Int×Unit):Option ((S31×Unit)×(Unit)):=
 let c1:=x.1
 let in2:=x.2.1
 let pace3:=x.2.2.1
 (f35 (c1,in2,pace3,())).bind fun r4=>
 bif !r4.1.1 then some (((0,0,0,0,0,([] : List cW),([] : List jH),0,0,([] : List dM),0,false,([] : List S1),(0,([] : List S1),(⟨#[]⟩ : ByteArray)),false,0,0,0,0,([] : List lY),([] : List ByteArray),(⟨#[]⟩ : ByteArray),(⟨#[]⟩ : ByteArray),0,0),()),())
 else (f37 (c1,in2,pace3,-1,())).bind fun r6=>
 (f36 (((r6.1.1.1,(r6.1.1.2.1,r6.1.1.2.2.1),(g3 r6.1.1,g4 r6.1.1,g5 r6.1.1,g6 r6.1.1,g7 r6.1.1),g8 r6.1.1,g9 r6.1.1,dQ r6.1.1,fF r6.1.1,gB r6.1.1,fN r6.1.1,fE r6.1.1,jR r6.1.1,kM r6.1.1,iM r6.1.1,g18 r6.1.1,g19 r6.1.1,g20 r6.1.1,(g21 r6.1.1,g22 r6.1.1,g23 r6.1.1),g24 r6.1.1,g25 r6.1.1,g26 r6.1.1,g27 r6.1.1,g28 r6.1.1,(g29 r6.1.1,g30 r6.1.1,g31 r6.1.1,g32 r6.1.1,g33 r6.1.1,g34 r6.1.1,g35 r6.1.1),g36 r6.1.1,g37 r6.1.1,g38 r6.1.1,g39 r6.1.1),()),())).bind fun r7=>
 some (((r7.1.1.1,r7.1.1.2.1,r7.1.1.2.2.1,g3 r7.1.1,g4 r7.1.1,g5 r7.1.1,g6 r7.1.1,g7 r7.1.1,g8 r7.1.1,g9 r7.1.1,dQ r7.1.1,fF r7.1.1,gB r7.1.1,(fN r7.1.1,fE r7.1.1,jR r7.1.1),kM r7.1.1,iM r7.1.1,g18 r7.1.1,g19 r7.1.1,g20 r7.1.1,g21 r7.1.1,g22 r7.1.1,g23 r7.1.1,g24 r7.1.1,g25 r7.1.1,g26 r7.1.1),()),())
def f38_12:Lp (List ByteArray×List ByteArray×Int×Unit) (List ByteArray×Unit):=fun x=>
 let a4:=x.1
 let out5:=x.2.1
 let i6:=x.2.2.1
 bif blt i6 a4.length then bif aE i6 a4.length then bif aE i6 out5.length then some (.inl (a4,out5.set i6.toNat (a4.getD i6.toNat (⟨#[]⟩ : ByteArray)),wr (i6+1),())) else none else none
 else some (.inr (out5,()))
def f38 (x:List ByteArray×Unit):Option ((List ByteArray×Unit)×(Unit)):=
 let a1:=x.1
 let v2:=(a1.length : Int)
 bif inE v2 (17592186044416 : Nat) then (aA f38_12 (a1,List.replicate v2.toNat (⟨#[]⟩ : ByteArray),0,())).bind fun z12=>some ((z12.1,()),()) else none
def f16 (x:aN×Unit):Option ((T8×Unit)×(Unit)):=
 let a1:=x.1
 (f38 (a1.1,())).bind fun r2=>(f38 (a1.2.1,())).bind fun r3=>some (((r2.1.1,r3.1.1,a1.2.2.1,g3 a1,t4 a1,()),()),())
def f86_28:Lp ((aN×Unit)×(List (List ByteArray))×Int×Int×List ByteArray×Int×Int×Unit) ((((aN×Unit)×(List (List ByteArray))×Int×Int×Unit)⊕(Bool×Unit))):=fun x=>
 let v13:=x.2.1
 let v14:=x.2.2.1
 let v15:=g3 x
 let v16:=g4 x
 let v17:=g5 x
 let v18:=g6 x
 bif blt v18 v17 then bif aE v18 v16.length then bif blt 4000 (v16.getD v18.toNat (⟨#[]⟩ : ByteArray)).size then some (.inr (.inr (false,())))
 else some (.inl (x.1,v13,v14,v15,v16,v17,wr (v18+1),())) else none else some (.inr (.inl (x.1,v13,v14,v15,())))
def f86_16:Lp ((aN×Unit)×(List (List ByteArray))×Int×Int×Unit) ((((aN×Unit)×Unit)⊕(Bool×Unit))):=fun x=>
 let v7:=x.2.1
 let v8:=x.2.2.1
 let v9:=g3 x
 bif blt v9 v8 then bif aE v9 v7.length then let v11:=(v7.getD v9.toNat ([] : List ByteArray))
 (aA f86_28 (x.1,v7,v8,v9,v11,(v11.length : Int),0,())).bind fun y31=>match y31 with
 | .inl z24=>some (.inl (z24.1,z24.2.1,z24.2.2.1,wr ((g3 z24)+1),()))
 | .inr z29=>some (.inr (.inr (z29.1,()))) else none else some (.inr (.inl (x.1,())))
def f86 (x:aN×Unit):Option ((Bool×Unit)×(Unit)):=
 let in1:=x.1
 bif (blt 200 in1.1.length)||(blt 200 in1.2.1.length) then some ((false,()),()) else let row5:=([in1.1,in1.2.1])
 (aA f86_16 ((in1,()),row5,(row5.length : Int),0,())).bind fun y41=>match y41 with
 | .inl z32=>some (((((((ble 0 z32.1.1.2.2.1)&&(ble z32.1.1.2.2.1 5000))&&(ble 1 (g3 z32.1.1)))&&(ble (g3 z32.1.1) 60))&&(ble 0 (t4 z32.1.1)))&&(ble (t4 z32.1.1) 20000),()),())
 | .inr z39=>some ((z39.1,()),())
def f87 (x:ByteArray×Unit):Option ((S1×Unit)×(Unit)):=
 some (((4,0,(0 : Nat),x.1,0),()),())
def f90 (x:List S1×Unit):Option ((List S1×Unit)×(Unit)):=
 let l1:=x.1
 bif cN (([] : List S1).length+l1.length) 2932031007402 then some ((([] : List S1)++l1,()),()) else none
def f88_16:Lp ((S32×Unit)×List S1×T2×(S9×Unit)×T2×Int×Int×Unit) (((S32×Unit)×List S1×T2×(S9×Unit)×T2×Unit)):=fun x=>
 let args7:=x.2.1
 let v8:=g5 x
 let v9:=g6 x
 bif blt v9 v8 then bif aE v9 (dQ (g4 x)).length then let row11:=((dQ (g4 x)).set v9.toNat (1,((dQ (g4 x)).getD v9.toNat d3).2))
 bif blt v9 args7.length then bif aE v9 args7.length then bif aE v9 row11.length then some (.inl (((x.1.1.1,x.1.1.2.1,x.1.1.2.2.1,g3 x.1.1,g4 x.1.1,()),()),args7,x.2.2.1,g3 x,u10 (g4 x) (row11.set v9.toNat ((row11.getD v9.toNat d3).1,args7.getD v9.toNat d1,(row11.getD v9.toNat d3).2.2)),v8,wr (v9+1),()))
 else none else none else some (.inl (((x.1.1.1,x.1.1.2.1,x.1.1.2.2.1,g3 x.1.1,g4 x.1.1,()),()),args7,x.2.2.1,g3 x,u10 (g4 x) row11,v8,wr (v9+1),())) else none
 else some (.inr (((x.1.1.1,x.1.1.2.1,x.1.1.2.2.1,g3 x.1.1,g4 x.1.1,()),()),args7,x.2.2.1,g3 x,g4 x,()))
def f88 (x:(S32×Unit)×Int×Int×List S1×Unit):Option ((T2×Unit)×((S32×Unit)×Unit)):=
 let proto1:=x.2.1
 bif aE proto1 x.1.1.2.1.length then let v4:=(g4 (x.1.1.2.1.getD proto1.toNat d10))
 bif inE v4 (3198579280802 : Nat) then (aA f88_16 (((x.1.1.1,x.1.1.2.1,x.1.1.2.2.1,g3 x.1.1,g4 x.1.1,()),()),g3 x,(0,0,0,false,([] : List S1),0,0,0,0,0,([] : List eC),([] : List eV),false,false,0,([] : List S1),(⟨#[]⟩ : ByteArray),0,()),(x.1.1.2.1.getD proto1.toNat d10,()),(1,0,0,false,([] : List S1),proto1,x.2.2.1,0,0,0,List.replicate v4.toNat d3,([] : List eV),false,false,0,([] : List S1),(⟨#[]⟩ : ByteArray),-1,()),(x.1.1.2.1.getD proto1.toNat d10).2.2.1,0,())).bind fun z17=>
 let args18:=z17.2.1
 bif g3 (g3 z17).1 then bif aE (g3 z17).1.2.2.1 (dQ (g4 z17)).length then let row19:=((dQ (g4 z17)).set (g3 z17).1.2.2.1.toNat (3,((dQ (g4 z17)).getD (g3 z17).1.2.2.1.toNat d3).2))
 bif blt (g3 z17).1.2.2.1 args18.length then bif inE (g3 z17).1.2.2.1 args18.length then (f90 (args18.drop (g3 z17).1.2.2.1.toNat,())).bind fun r23=>
 some ((u10 (g4 z17) (row19.set (g3 z17).1.2.2.1.toNat ((row19.getD (g3 z17).1.2.2.1.toNat d3).1,(row19.getD (g3 z17).1.2.2.1.toNat d3).2.1,(row19.getD (g3 z17).1.2.2.1.toNat d3).2.2.1,r23.1.1)),()),((z17.1.1.1,z17.1.1.2.1,z17.1.1.2.2.1,g3 z17.1.1,g4 z17.1.1,()),()),())
 else none else some ((u10 (g4 z17) row19,()),((z17.1.1.1,z17.1.1.2.1,z17.1.1.2.2.1,g3 z17.1.1,g4 z17.1.1,()),()),()) else none
 else some ((g4 z17,()),((z17.1.1.1,z17.1.1.2.1,z17.1.1.2.2.1,g3 z17.1.1,g4 z17.1.1,()),()),()) else none else none
def f39_32:Lp (T9×List S1×List ByteArray×Int×Int×Unit) (T9×List S1×Unit):=fun x=>
 let args13:=x.2.1
 let v14:=x.2.2.1
 let v15:=g3 x
 let v16:=g4 x
 bif blt v16 v15 then bif aE v16 v14.length then (f87 (v14.getD v16.toNat (⟨#[]⟩ : ByteArray),())).bind fun r19=>
 bif cN (args13.length+([r19.1.1]).length) 2932031007402 then some (.inl (u36 x.1 (),args13++([r19.1.1]),v14,v15,wr (v16+1),())) else none else none
 else some (.inr (u36 x.1 (),args13,()))
def f39 (x:aZ×aN×Int×Unit):Option ((T9×Unit)×(Unit)):=
 let c1:=x.1
 let in2:=x.2.1
 let pace3:=x.2.2.1
 (f86 (in2,())).bind fun r4=>
 (bK (((!r4.1.1)||(blt pace3 0))||(blt 1000 pace3)) (some true) ((f27 (c1,())).bind fun r8=>(some (!((beq r8.1.1.1 0)&&((beq r8.1.1.2.1 0)&&((beq r8.1.1.2.2 0)&&true))))))).bind fun c9=>
 bif c9 then none else (f8 (c1,())).bind fun r10=>
 bif inE r10.1.1.2.1 (17592186044416 : Nat) then (aA f39_32 ((pace3,0,0,0,0,([] : List cW),List.replicate r10.1.1.2.1.toNat d7,0,0,([] : List dM),0,false,([] : List S1),0,([] : List S1),(⟨#[]⟩ : ByteArray),false,0,0,0,0,([] : List lY),([] : List ByteArray),(⟨#[]⟩ : ByteArray),(⟨#[]⟩ : ByteArray),0,0,c1,in2.1,in2.2.1,in2.2.2.1,g3 in2,t4 in2,r10.1.1.1,r10.1.1.2.1,0,(),()),([] : List S1),in2.1,(in2.1.length : Int),0,())).bind fun z23=>
 (f88 ((((z23.1.1,z23.1.2.1,z23.1.2.2.1,g3 z23.1,g4 z23.1,g5 z23.1,g6 z23.1,g7 z23.1,g8 z23.1,g9 z23.1,dQ z23.1,fF z23.1,gB z23.1,(fN z23.1,fE z23.1,jR z23.1),kM z23.1,iM z23.1,g18 z23.1,g19 z23.1,g20 z23.1,g21 z23.1,g22 z23.1,g23 z23.1,g24 z23.1,g25 z23.1,g26 z23.1),g27 z23.1,(g28 z23.1,g29 z23.1,g30 z23.1,g31 z23.1,g32 z23.1),(g33 z23.1,g34 z23.1),g35 z23.1,()),()),0,-1,z23.2.1,())).bind fun r25=>
 some (((r25.2.1.1.1.1,r25.2.1.1.1.2.1,r25.2.1.1.1.2.2.1,g3 r25.2.1.1.1,g4 r25.2.1.1.1,g5 r25.2.1.1.1,g6 r25.2.1.1.1,g7 r25.2.1.1.1,g8 r25.2.1.1.1,[(2,(0,0,(0 : Nat),(⟨#[]⟩ : ByteArray),0),[(r25.1.1.1,r25.1.1.2.1,r25.1.1.2.2.1,g3 r25.1.1,g4 r25.1.1,g5 r25.1.1,g6 r25.1.1,g7 r25.1.1,g8 r25.1.1,g9 r25.1.1,dQ r25.1.1,fF r25.1.1,gB r25.1.1,fN r25.1.1,(fE r25.1.1,jR r25.1.1,kM r25.1.1),iM r25.1.1)],-1,false,([] : List S1))],dQ r25.2.1.1.1,fF r25.2.1.1.1,gB r25.2.1.1.1,(fN r25.2.1.1.1).1,(fN r25.2.1.1.1).2.1,(fN r25.2.1.1.1).2.2,fE r25.2.1.1.1,jR r25.2.1.1.1,kM r25.2.1.1.1,iM r25.2.1.1.1,g18 r25.2.1.1.1,g19 r25.2.1.1.1,g20 r25.2.1.1.1,g21 r25.2.1.1.1,g22 r25.2.1.1.1,g23 r25.2.1.1.1,t24 r25.2.1.1.1,r25.2.1.1.2.1,r25.2.1.1.2.2.1.1,r25.2.1.1.2.2.1.2.1,r25.2.1.1.2.2.1.2.2.1,g3 r25.2.1.1.2.2.1,t4 r25.2.1.1.2.2.1,(g3 r25.2.1.1).1,(g3 r25.2.1.1).2,g4 r25.2.1.1,(),()),()),())
 else none
def f1039_32:Lp (T9×List S1×List ByteArray×Int×Int×Unit) (T9×List S1×Unit):=fun x=>
 let args13:=x.2.1
 let v14:=x.2.2.1
 let v15:=g3 x
 let v16:=g4 x
 bif blt v16 v15 then bif aE v16 v14.length then (f87 (v14.getD v16.toNat (⟨#[]⟩ : ByteArray),())).bind fun r19=>
 bif cN (args13.length+([r19.1.1]).length) 2932031007402 then some (.inl (u36 x.1 (),args13++([r19.1.1]),v14,v15,wr (v16+1),())) else none else none
 else some (.inr (u36 x.1 (),args13,()))
def f1039 (x:aZ×aN×Int×Unit):Option ((Unit×Unit)×(Unit)):=
 let c1:=x.1
 let in2:=x.2.1
 let pace3:=x.2.2.1
 (f86 (in2,())).bind fun r4=>
 (bK (((!r4.1.1)||(blt pace3 0))||(blt 1000 pace3)) (some true) ((f27 (c1,())).bind fun r8=>(some (!((beq r8.1.1.1 0)&&((beq r8.1.1.2.1 0)&&((beq r8.1.1.2.2 0)&&true))))))).bind fun c9=>
 bif c9 then some (((),()),()) else (f8 (c1,())).bind fun r10=>
 bif inE r10.1.1.2.1 (17592186044416 : Nat) then (aA f1039_32 ((pace3,0,0,0,0,([] : List cW),List.replicate r10.1.1.2.1.toNat d7,0,0,([] : List dM),0,false,([] : List S1),0,([] : List S1),(⟨#[]⟩ : ByteArray),false,0,0,0,0,([] : List lY),([] : List ByteArray),(⟨#[]⟩ : ByteArray),(⟨#[]⟩ : ByteArray),0,0,c1,in2.1,in2.2.1,in2.2.2.1,g3 in2,t4 in2,r10.1.1.1,r10.1.1.2.1,0,(),()),([] : List S1),in2.1,(in2.1.length : Int),0,())).bind fun z23=>
 (f88 ((((z23.1.1,z23.1.2.1,z23.1.2.2.1,g3 z23.1,g4 z23.1,g5 z23.1,g6 z23.1,g7 z23.1,g8 z23.1,g9 z23.1,dQ z23.1,fF z23.1,gB z23.1,(fN z23.1,fE z23.1,jR z23.1),kM z23.1,iM z23.1,g18 z23.1,g19 z23.1,g20 z23.1,g21 z23.1,g22 z23.1,g23 z23.1,g24 z23.1,g25 z23.1,g26 z23.1),g27 z23.1,(g28 z23.1,g29 z23.1,g30 z23.1,g31 z23.1,g32 z23.1),(g33 z23.1,g34 z23.1),g35 z23.1,()),()),0,-1,z23.2.1,())).bind fun _=>
 none else none
def f91 (x:S20×Unit):Option (((Int×List S1×ByteArray×Unit)×Unit)×(Unit)):=
 let w1:=x.1
 (f90 (w1.2.1,())).bind fun r2=>some (((w1.1,r2.1.1,w1.2.2,()),()),())
def f89_16:Lp (T2×T2×List eC×List eC×Int×Int×Unit) (T2×T2×List eC×Unit):=fun x=>
 let rs4:=x.2.2.1
 let v5:=g3 x
 let v6:=g4 x
 let v7:=g5 x
 bif blt v7 v6 then bif aE v7 v5.length then (f90 ((v5.getD v7.toNat d3).2.2.2,())).bind fun r10=>
 let row11:=[((v5.getD v7.toNat d3).1,(v5.getD v7.toNat d3).2.1,(v5.getD v7.toNat d3).2.2.1,r10.1.1)]
 bif cN (rs4.length+row11.length) 1599289640401 then some (.inl (x.1,x.2.1,rs4++row11,v5,v6,wr (v7+1),())) else none else none else some (.inr (x.1,x.2.1,rs4,()))
def f89_64:Lp (T2×T2×List eV×(eV×Unit)×List S14×List eV×Int×Int×List S14×Int×Int×Unit) ((T2×T2×List eV×(eV×Unit)×List S14×List eV×Int×Int×Unit)):=fun x=>
 let fs24:=x.2.2.1
 let ds25:=g4 x
 let v26:=g5 x
 let v27:=g6 x
 let v28:=g7 x
 let v29:=g8 x
 let v30:=g9 x
 let v31:=dQ x
 bif blt v31 v30 then bif aE v31 v29.length then (f90 ((v29.getD v31.toNat d5).2,())).bind fun r34=>let row35:=[((v29.getD v31.toNat d5).1,r34.1.1)]
 bif cN (ds25.length+row35.length) 4398046511104 then some (.inl (x.1,x.2.1,fs24,g3 x,ds25++row35,v26,v27,v28,v29,v30,wr (v31+1),())) else none else none
 else some (.inr (x.1,x.2.1,fs24,g3 x,ds25,v26,v27,v28,()))
def f89_48:Lp (T2×T2×List eV×List eV×Int×Int×Unit) (T2×T2×List eV×Unit):=fun x=>
 let fs17:=x.2.2.1
 let v18:=g3 x
 let v19:=g4 x
 let v20:=g5 x
 bif blt v20 v19 then bif aE v20 v18.length then let v22:=(t4 (v18.getD v20.toNat d4))
 (aA f89_64 (x.1,x.2.1,fs17,(v18.getD v20.toNat d4,()),([] : List S14),v18,v19,v20,v22,(v22.length : Int),0,())).bind fun z38=>let fs39:=z38.2.2.1
 let row44:=[((g3 z38).1.1,(g3 z38).1.2.1,(g3 z38).1.2.2.1,g3 (g3 z38).1,g4 z38)]
 bif cN (fs39.length+row44.length) 2513169434916 then some (.inl (z38.1,z38.2.1,fs39++row44,g5 z38,g6 z38,wr ((g7 z38)+1),())) else none else none else some (.inr (x.1,x.2.1,fs17,()))
def f89 (x:dH×Unit):Option ((T2×Unit)×(Unit)):=
 let f1:=x.1
 (f90 (g4 f1,())).bind fun r2=>
 (aA f89_16 ((f1.1,f1.2.1,f1.2.2.1,g3 f1,r2.1.1,g5 f1,g6 f1,g7 f1,g8 f1,g9 f1,dQ f1,fF f1,gB f1,fN f1,(fE f1).1,(fE f1).2.1,(fE f1).2.2,t15 f1,()),(0,0,0,false,([] : List S1),0,0,0,0,0,([] : List eC),([] : List eV),false,false,0,([] : List S1),(⟨#[]⟩ : ByteArray),0,()),([] : List eC),dQ f1,((dQ f1).length : Int),0,())).bind fun z14=>
 (aA f89_48 (u10 z14.1 z14.2.2.1,z14.2.1,([] : List eV),fF z14.1,((fF z14.1).length : Int),0,())).bind fun z47=>(f91 ((fE z47.1,jR z47.1,kM z47.1),())).bind fun r49=>
 some ((u16 (u15 (u14 (u11 z47.1 z47.2.2.1) r49.1.1.1) r49.1.1.2.1) r49.1.1.2.2.1,()),())
def f40_12:Lp ((S31×Unit)×T4×List cW×List cW×Int×Int×Unit) (((S31×Unit)×T4×List cW×Unit)):=fun x=>
 let ss3:=x.2.2.1
 let v4:=g3 x
 let v5:=g4 x
 let v6:=g5 x
 bif blt v6 v5 then bif aE v6 v4.length then let v8:=(g3 (v4.getD v6.toNat d6)).1
 bif cN (([] : List S11).length+v8.length) 1353245080339 then let v10:=(g7 (v4.getD v6.toNat d6))
 bif cN (([] : List Int).length+v10.length) 17592186044416 then let row12:=([u7 (u3 (v4.getD v6.toNat d6) (([] : List S11)++v8,(g3 (v4.getD v6.toNat d6)).2)) (([] : List Int)++v10)])
 bif cN (ss3.length+row12.length) 925904528653 then some (.inl (x.1,x.2.1,ss3++row12,v4,v5,wr (v6+1),())) else none else none else none else none else some (.inr (x.1,x.2.1,ss3,()))
def f40_68:Lp (T4×T4×List dM×(dM×Unit)×List dH×List dM×Int×Int×List dH×Int×Int×Unit) ((T4×T4×List dM×(dM×Unit)×List dH×List dM×Int×Int×Unit)):=fun x=>
 let ts26:=x.2.2.1
 let fs27:=g4 x
 let v28:=g5 x
 let v29:=g6 x
 let v30:=g7 x
 let v31:=g8 x
 let v32:=g9 x
 let v33:=dQ x
 bif blt v33 v32 then bif aE v33 v31.length then (f89 (v31.getD v33.toNat iJ,())).bind fun r35=>
 let row36:=[(r35.1.1.1,r35.1.1.2.1,r35.1.1.2.2.1,g3 r35.1.1,g4 r35.1.1,g5 r35.1.1,g6 r35.1.1,g7 r35.1.1,g8 r35.1.1,g9 r35.1.1,dQ r35.1.1,fF r35.1.1,gB r35.1.1,fN r35.1.1,(fE r35.1.1,jR r35.1.1,kM r35.1.1),iM r35.1.1)]
 bif cN (fs27.length+row36.length) 676622540169 then some (.inl (x.1,x.2.1,ts26,g3 x,fs27++row36,v28,v29,v30,v31,v32,wr (v33+1),())) else none else none
 else some (.inr (x.1,x.2.1,ts26,g3 x,fs27,v28,v29,v30,()))
def f40_52:Lp (T4×T4×List dM×List dM×Int×Int×Unit) (T4×T4×List dM×Unit):=fun x=>
 let ts19:=x.2.2.1
 let v20:=g3 x
 let v21:=g4 x
 let v22:=g5 x
 bif blt v22 v21 then bif aE v22 v20.length then let v24:=(v20.getD v22.toNat d11).2.2.1
 (aA f40_68 (x.1,x.2.1,ts19,(v20.getD v22.toNat d11,()),([] : List dH),v20,v21,v22,v24,(v24.length : Int),0,())).bind fun z39=>let ts40:=z39.2.2.1
 (f90 (t5 (g3 z39).1,())).bind fun r45=>let row46:=[((g3 z39).1.1,(g3 z39).1.2.1,g4 z39,g3 (g3 z39).1,g4 (g3 z39).1,r45.1.1)]
 bif cN (ts40.length+row46.length) 1172812402961 then some (.inl (z39.1,z39.2.1,ts40++row46,g5 z39,g6 z39,wr ((g7 z39)+1),())) else none else none else some (.inr (x.1,x.2.1,ts19,()))
def f40 (x:S31×Unit):Option ((T4×Unit)×(Unit)):=
 let m1:=x.1
 (aA f40_12 ((m1,()),(0,0,0,0,0,([] : List cW),([] : List jH),0,0,([] : List dM),0,false,([] : List S1),0,([] : List S1),(⟨#[]⟩ : ByteArray),false,0,0,0,0,([] : List lY),([] : List ByteArray),(⟨#[]⟩ : ByteArray),(⟨#[]⟩ : ByteArray),0,0,()),([] : List cW),g5 m1,((g5 m1).length : Int),0,())).bind fun z15=>
 bif cN (([] : List jH).length+(g6 z15.1.1).length) 8796093022208 then (aA f40_52 ((z15.1.1.1,z15.1.1.2.1,z15.1.1.2.2.1,g3 z15.1.1,g4 z15.1.1,z15.2.2.1,([] : List jH)++(g6 z15.1.1),g7 z15.1.1,g8 z15.1.1,g9 z15.1.1,dQ z15.1.1,fF z15.1.1,gB z15.1.1,(fN z15.1.1).1,(fN z15.1.1).2.1,(fN z15.1.1).2.2,fE z15.1.1,jR z15.1.1,kM z15.1.1,iM z15.1.1,g18 z15.1.1,g19 z15.1.1,g20 z15.1.1,g21 z15.1.1,g22 z15.1.1,g23 z15.1.1,t24 z15.1.1,()),z15.2.1,([] : List dM),g9 z15.1.1,((g9 z15.1.1).length : Int),0,())).bind fun z49=>
 (f90 (gB z49.1,())).bind fun r51=>(f91 ((fN z49.1,fE z49.1,jR z49.1),())).bind fun r52=>
 bif cN (([] : List lY).length+(g21 z49.1).length) 2932031007402 then bif cN (([] : List ByteArray).length+(g22 z49.1).length) 8796093022208 then some ((u22 (u21 (u15 (u14 (u13 (u12 (u9 z49.1 z49.2.2.1) r51.1.1) r52.1.1.1) r52.1.1.2.1) r52.1.1.2.2.1) (([] : List lY)++(g21 z49.1))) (([] : List ByteArray)++(g22 z49.1)),()),())
 else none else none else none
def f17 (x:aZ×aN×Int×Unit):Option ((T4×Unit)×(Unit)):=
 (f39 (x.1,x.2.1,x.2.2.1,())).bind fun r4=>
 (f40 ((r4.1.1.1,r4.1.1.2.1,r4.1.1.2.2.1,g3 r4.1.1,g4 r4.1.1,g5 r4.1.1,g6 r4.1.1,g7 r4.1.1,g8 r4.1.1,g9 r4.1.1,dQ r4.1.1,fF r4.1.1,gB r4.1.1,(fN r4.1.1,fE r4.1.1,jR r4.1.1),kM r4.1.1,iM r4.1.1,g18 r4.1.1,g19 r4.1.1,g20 r4.1.1,g21 r4.1.1,g22 r4.1.1,g23 r4.1.1,g24 r4.1.1,g25 r4.1.1,g26 r4.1.1),())).bind fun r5=>
 some ((r5.1.1,()),())
def f1017 (x:aZ×aN×Int×Unit):Option ((T4×Unit)×(Unit)):=
 (f1039 (x.1,x.2.1,x.2.2.1,())).bind fun _=>
 some (((0,0,0,0,0,([] : List cW),([] : List jH),0,0,([] : List dM),0,false,([] : List S1),0,([] : List S1),(⟨#[]⟩ : ByteArray),false,0,0,0,0,([] : List lY),([] : List ByteArray),(⟨#[]⟩ : ByteArray),(⟨#[]⟩ : ByteArray),0,0,()),()),())
def f185 (x:S11×S11×Unit):Option ((Bool×Unit)×(Unit)):=
 let a1:=x.1
 let b2:=x.2.1
 (f95 (a1.1,b2.1,())).bind fun r3=>bif !r3.1.1 then some ((false,()),()) else (f95 (a1.2.1,b2.2.1,())).bind fun r5=>bif !r5.1.1 then some ((false,()),())
 else bif bne a1.2.2 b2.2.2 then some ((false,()),()) else some ((true,()),())
def f179_16:Lp (List S11×List S11×Int×Unit) (((Unit)⊕(Bool×Unit))):=fun x=>
 let a6:=x.1
 let b7:=x.2.1
 let i8:=x.2.2.1
 bif blt i8 a6.length then bif aE i8 a6.length then bif aE i8 b7.length then (f185 (a6.getD i8.toNat d2,b7.getD i8.toNat d2,())).bind fun r11=>bif !r11.1.1 then some (.inr (.inr (false,())))
 else some (.inl (a6,b7,wr (i8+1),())) else none else none else some (.inr (.inl ()))
def f179 (x:List S11×List S11×Unit):Option ((Bool×Unit)×(Unit)):=
 let a1:=x.1
 let b2:=x.2.1
 bif bne a1.length b2.length then some ((false,()),()) else (aA f179_16 (a1,b2,0,())).bind fun y17=>match y17 with
 | .inl _=>some ((true,()),())
 | .inr z15=>some ((z15.1,()),())
def f142 (x:S16×S16×Unit):Option ((Bool×Unit)×(Unit)):=
 let a1:=x.1
 let b2:=x.2.1
 (f179 (a1.1,b2.1,())).bind fun r3=>bif !r3.1.1 then some ((false,()),()) else bif bne a1.2 b2.2 then some ((false,()),()) else some ((true,()),())
def f143_16:Lp (List Int×List Int×Int×Unit) (((Unit)⊕(Bool×Unit))):=fun x=>
 let a6:=x.1
 let b7:=x.2.1
 let i8:=x.2.2.1
 bif blt i8 a6.length then bif aE i8 a6.length then bif aE i8 b7.length then bif bne (a6.getD i8.toNat (0 : Int)) (b7.getD i8.toNat (0 : Int)) then some (.inr (.inr (false,())))
 else some (.inl (a6,b7,wr (i8+1),())) else none else none else some (.inr (.inl ()))
def f143 (x:List Int×List Int×Unit):Option ((Bool×Unit)×(Unit)):=
 let a1:=x.1
 let b2:=x.2.1
 bif bne a1.length b2.length then some ((false,()),()) else (aA f143_16 (a1,b2,0,())).bind fun y18=>match y18 with
 | .inl _=>some ((true,()),())
 | .inr z16=>some ((z16.1,()),())
def f92 (x:cW×cW×Unit):Option ((Bool×Unit)×(Unit)):=
 let a1:=x.1
 let b2:=x.2.1
 bif bne a1.1 b2.1 then some ((false,()),()) else bif bne a1.2.1 b2.2.1 then some ((false,()),()) else bif bne a1.2.2.1 b2.2.2.1 then some ((false,()),())
 else (f142 (g3 a1,g3 b2,())).bind fun r6=>bif !r6.1.1 then some ((false,()),()) else bif bne (g4 a1) (g4 b2) then some ((false,()),())
 else bif !(jF (g5 a1) (g5 b2)) then some ((false,()),()) else bif bne (g6 a1) (g6 b2) then some ((false,()),()) else (f143 (g7 a1,g7 b2,())).bind fun r11=>
 bif !r11.1.1 then some ((false,()),()) else (f95 (t8 a1,t8 b2,())).bind fun r13=>bif !r13.1.1 then some ((false,()),()) else some ((true,()),())
def f41_16:Lp (List cW×List cW×Int×Unit) (((Unit)⊕(Bool×Unit))):=fun x=>
 let a6:=x.1
 let b7:=x.2.1
 let i8:=x.2.2.1
 bif blt i8 a6.length then bif aE i8 a6.length then bif aE i8 b7.length then (f92 (a6.getD i8.toNat d6,b7.getD i8.toNat d6,())).bind fun r11=>bif !r11.1.1 then some (.inr (.inr (false,())))
 else some (.inl (a6,b7,wr (i8+1),())) else none else none else some (.inr (.inl ()))
def f41 (x:List cW×List cW×Unit):Option ((Bool×Unit)×(Unit)):=
 let a1:=x.1
 let b2:=x.2.1
 bif bne a1.length b2.length then some ((false,()),()) else (aA f41_16 (a1,b2,0,())).bind fun y17=>match y17 with
 | .inl _=>some ((true,()),())
 | .inr z15=>some ((z15.1,()),())
def f93 (x:jH×jH×Unit):Option ((Bool×Unit)×(Unit)):=
 let a1:=x.1
 let b2:=x.2.1
 bif bne a1.1 b2.1 then some ((false,()),()) else bif bne a1.2 b2.2 then some ((false,()),()) else some ((true,()),())
def f42_16:Lp (List jH×List jH×Int×Unit) (((Unit)⊕(Bool×Unit))):=fun x=>
 let a6:=x.1
 let b7:=x.2.1
 let i8:=x.2.2.1
 bif blt i8 a6.length then bif aE i8 a6.length then bif aE i8 b7.length then (f93 (a6.getD i8.toNat d7,b7.getD i8.toNat d7,())).bind fun r11=>bif !r11.1.1 then some (.inr (.inr (false,())))
 else some (.inl (a6,b7,wr (i8+1),())) else none else none else some (.inr (.inl ()))
def f42 (x:List jH×List jH×Unit):Option ((Bool×Unit)×(Unit)):=
 let a1:=x.1
 let b2:=x.2.1
 bif bne a1.length b2.length then some ((false,()),()) else (aA f42_16 (a1,b2,0,())).bind fun y17=>match y17 with
 | .inl _=>some ((true,()),())
 | .inr z15=>some ((z15.1,()),())
def f45 (x:S20×S20×Unit):Option ((Bool×Unit)×(Unit)):=
 let a1:=x.1
 let b2:=x.2.1
 bif bne a1.1 b2.1 then some ((false,()),()) else (f44 (a1.2.1,b2.2.1,())).bind fun r4=>bif !r4.1.1 then some ((false,()),()) else bif !(jL a1.2.2 b2.2.2) then some ((false,()),())
 else some ((true,()),())
def f189 (x:eC×eC×Unit):Option ((Bool×Unit)×(Unit)):=
 let a1:=x.1
 let b2:=x.2.1
 bif bne a1.1 b2.1 then some ((false,()),()) else (f95 (a1.2.1,b2.2.1,())).bind fun r4=>bif !r4.1.1 then some ((false,()),()) else bif bne a1.2.2.1 b2.2.2.1 then some ((false,()),())
 else (f44 (a1.2.2.2,b2.2.2.2,())).bind fun r7=>bif !r7.1.1 then some ((false,()),()) else some ((true,()),())
def f186_16:Lp (List eC×List eC×Int×Unit) (((Unit)⊕(Bool×Unit))):=fun x=>
 let a6:=x.1
 let b7:=x.2.1
 let i8:=x.2.2.1
 bif blt i8 a6.length then bif aE i8 a6.length then bif aE i8 b7.length then (f189 (a6.getD i8.toNat d3,b7.getD i8.toNat d3,())).bind fun r11=>bif !r11.1.1 then some (.inr (.inr (false,())))
 else some (.inl (a6,b7,wr (i8+1),())) else none else none else some (.inr (.inl ()))
def f186 (x:List eC×List eC×Unit):Option ((Bool×Unit)×(Unit)):=
 let a1:=x.1
 let b2:=x.2.1
 bif bne a1.length b2.length then some ((false,()),()) else (aA f186_16 (a1,b2,0,())).bind fun y17=>match y17 with
 | .inl _=>some ((true,()),())
 | .inr z15=>some ((z15.1,()),())
def f192 (x:S14×S14×Unit):Option ((Bool×Unit)×(Unit)):=
 let a1:=x.1
 let b2:=x.2.1
 bif bne a1.1 b2.1 then some ((false,()),()) else (f44 (a1.2,b2.2,())).bind fun r4=>bif !r4.1.1 then some ((false,()),()) else some ((true,()),())
def f191_16:Lp (List S14×List S14×Int×Unit) (((Unit)⊕(Bool×Unit))):=fun x=>
 let a6:=x.1
 let b7:=x.2.1
 let i8:=x.2.2.1
 bif blt i8 a6.length then bif aE i8 a6.length then bif aE i8 b7.length then (f192 (a6.getD i8.toNat d5,b7.getD i8.toNat d5,())).bind fun r11=>bif !r11.1.1 then some (.inr (.inr (false,())))
 else some (.inl (a6,b7,wr (i8+1),())) else none else none else some (.inr (.inl ()))
def f191 (x:List S14×List S14×Unit):Option ((Bool×Unit)×(Unit)):=
 let a1:=x.1
 let b2:=x.2.1
 bif bne a1.length b2.length then some ((false,()),()) else (aA f191_16 (a1,b2,0,())).bind fun y17=>match y17 with
 | .inl _=>some ((true,()),())
 | .inr z15=>some ((z15.1,()),())
def f190 (x:eV×eV×Unit):Option ((Bool×Unit)×(Unit)):=
 let a1:=x.1
 let b2:=x.2.1
 bif !(jF a1.1 b2.1) then some ((false,()),()) else bif bne a1.2.1 b2.2.1 then some ((false,()),()) else bif bne a1.2.2.1 b2.2.2.1 then some ((false,()),())
 else bif bne (g3 a1) (g3 b2) then some ((false,()),()) else (f191 (t4 a1,t4 b2,())).bind fun r7=>bif !r7.1.1 then some ((false,()),()) else some ((true,()),())
def f187_16:Lp (List eV×List eV×Int×Unit) (((Unit)⊕(Bool×Unit))):=fun x=>
 let a6:=x.1
 let b7:=x.2.1
 let i8:=x.2.2.1
 bif blt i8 a6.length then bif aE i8 a6.length then bif aE i8 b7.length then (f190 (a6.getD i8.toNat d4,b7.getD i8.toNat d4,())).bind fun r11=>bif !r11.1.1 then some (.inr (.inr (false,())))
 else some (.inl (a6,b7,wr (i8+1),())) else none else none else some (.inr (.inl ()))
def f187 (x:List eV×List eV×Unit):Option ((Bool×Unit)×(Unit)):=
 let a1:=x.1
 let b2:=x.2.1
 bif bne a1.length b2.length then some ((false,()),()) else (aA f187_16 (a1,b2,0,())).bind fun y17=>match y17 with
 | .inl _=>some ((true,()),())
 | .inr z15=>some ((z15.1,()),())
def f180 (x:dH×dH×Unit):Option ((Bool×Unit)×(Unit)):=
 let a1:=x.1
 let b2:=x.2.1
 bif bne a1.1 b2.1 then some ((false,()),()) else bif bne a1.2.1 b2.2.1 then some ((false,()),()) else bif bne a1.2.2.1 b2.2.2.1 then some ((false,()),())
 else bif !(jF (g3 a1) (g3 b2)) then some ((false,()),()) else (f44 (g4 a1,g4 b2,())).bind fun r7=>bif !r7.1.1 then some ((false,()),())
 else bif bne (g5 a1) (g5 b2) then some ((false,()),()) else bif bne (g6 a1) (g6 b2) then some ((false,()),()) else bif bne (g7 a1) (g7 b2) then some ((false,()),())
 else bif bne (g8 a1) (g8 b2) then some ((false,()),()) else bif bne (g9 a1) (g9 b2) then some ((false,()),()) else (f186 (dQ a1,dQ b2,())).bind fun r14=>
 bif !r14.1.1 then some ((false,()),()) else (f187 (fF a1,fF b2,())).bind fun r16=>bif !r16.1.1 then some ((false,()),()) else bif !(jF (gB a1) (gB b2)) then some ((false,()),())
 else bif !(jF (fN a1) (fN b2)) then some ((false,()),()) else (f45 (fE a1,fE b2,())).bind fun r20=>bif !r20.1.1 then some ((false,()),())
 else bif bne (t15 a1) (t15 b2) then some ((false,()),()) else some ((true,()),())
def f144_16:Lp (List dH×List dH×Int×Unit) (((Unit)⊕(Bool×Unit))):=fun x=>
 let a6:=x.1
 let b7:=x.2.1
 let i8:=x.2.2.1
 bif blt i8 a6.length then bif aE i8 a6.length then bif aE i8 b7.length then (f180 (a6.getD i8.toNat iJ,b7.getD i8.toNat iJ,())).bind fun r11=>bif !r11.1.1 then some (.inr (.inr (false,())))
 else some (.inl (a6,b7,wr (i8+1),())) else none else none else some (.inr (.inl ()))
def f144 (x:List dH×List dH×Unit):Option ((Bool×Unit)×(Unit)):=
 let a1:=x.1
 let b2:=x.2.1
 bif bne a1.length b2.length then some ((false,()),()) else (aA f144_16 (a1,b2,0,())).bind fun y17=>match y17 with
 | .inl _=>some ((true,()),())
 | .inr z15=>some ((z15.1,()),())
def f94 (x:dM×dM×Unit):Option ((Bool×Unit)×(Unit)):=
 let a1:=x.1
 let b2:=x.2.1
 bif bne a1.1 b2.1 then some ((false,()),()) else (f95 (a1.2.1,b2.2.1,())).bind fun r4=>bif !r4.1.1 then some ((false,()),()) else (f144 (a1.2.2.1,b2.2.2.1,())).bind fun r6=>
 bif !r6.1.1 then some ((false,()),()) else bif bne (g3 a1) (g3 b2) then some ((false,()),()) else bif !(jF (g4 a1) (g4 b2)) then some ((false,()),())
 else (f44 (t5 a1,t5 b2,())).bind fun r10=>bif !r10.1.1 then some ((false,()),()) else some ((true,()),())
def f43_16:Lp (List dM×List dM×Int×Unit) (((Unit)⊕(Bool×Unit))):=fun x=>
 let a6:=x.1
 let b7:=x.2.1
 let i8:=x.2.2.1
 bif blt i8 a6.length then bif aE i8 a6.length then bif aE i8 b7.length then (f94 (a6.getD i8.toNat d11,b7.getD i8.toNat d11,())).bind fun r11=>bif !r11.1.1 then some (.inr (.inr (false,())))
 else some (.inl (a6,b7,wr (i8+1),())) else none else none else some (.inr (.inl ()))
def f43 (x:List dM×List dM×Unit):Option ((Bool×Unit)×(Unit)):=
 let a1:=x.1
 let b2:=x.2.1
 bif bne a1.length b2.length then some ((false,()),()) else (aA f43_16 (a1,b2,0,())).bind fun y17=>match y17 with
 | .inl _=>some ((true,()),())
 | .inr z15=>some ((z15.1,()),())
def f47_16:Lp (List ByteArray×List ByteArray×Int×Unit) (((Unit)⊕(Bool×Unit))):=fun x=>
 let a6:=x.1
 let b7:=x.2.1
 let i8:=x.2.2.1
 bif blt i8 a6.length then bif aE i8 a6.length then bif aE i8 b7.length then bif !(jL (a6.getD i8.toNat (⟨#[]⟩ : ByteArray)) (b7.getD i8.toNat (⟨#[]⟩ : ByteArray))) then some (.inr (.inr (false,())))
 else some (.inl (a6,b7,wr (i8+1),())) else none else none else some (.inr (.inl ()))
def f47 (x:List ByteArray×List ByteArray×Unit):Option ((Bool×Unit)×(Unit)):=
 let a1:=x.1
 let b2:=x.2.1
 bif bne a1.length b2.length then some ((false,()),()) else (aA f47_16 (a1,b2,0,())).bind fun y18=>match y18 with
 | .inl _=>some ((true,()),())
 | .inr z16=>some ((z16.1,()),())
def f146 (x:lY×lY×Unit):Option ((Bool×Unit)×(Unit)):=
 let a1:=x.1
 let b2:=x.2.1
 bif bne a1.1 b2.1 then some ((false,()),()) else bif bne a1.2.1 b2.2.1 then some ((false,()),()) else bif bne a1.2.2.1 b2.2.2.1 then some ((false,()),())
 else bif bne (g3 a1) (g3 b2) then some ((false,()),()) else bif !(jL (t4 a1) (t4 b2)) then some ((false,()),()) else some ((true,()),())
def f96_16:Lp (List lY×List lY×Int×Unit) (((Unit)⊕(Bool×Unit))):=fun x=>
 let a6:=x.1
 let b7:=x.2.1
 let i8:=x.2.2.1
 bif blt i8 a6.length then bif aE i8 a6.length then bif aE i8 b7.length then (f146 (a6.getD i8.toNat d0,b7.getD i8.toNat d0,())).bind fun r11=>bif !r11.1.1 then some (.inr (.inr (false,())))
 else some (.inl (a6,b7,wr (i8+1),())) else none else none else some (.inr (.inl ()))
def f96 (x:List lY×List lY×Unit):Option ((Bool×Unit)×(Unit)):=
 let a1:=x.1
 let b2:=x.2.1
 bif bne a1.length b2.length then some ((false,()),()) else (aA f96_16 (a1,b2,0,())).bind fun y17=>match y17 with
 | .inl _=>some ((true,()),())
 | .inr z15=>some ((z15.1,()),())
def f46 (x:S27×S27×Unit):Option ((Bool×Unit)×(Unit)):=
 let a1:=x.1
 let b2:=x.2.1
 bif bne a1.1 b2.1 then some ((false,()),()) else (f96 (a1.2.1,b2.2.1,())).bind fun r4=>bif !r4.1.1 then some ((false,()),()) else (f47 (a1.2.2.1,b2.2.2.1,())).bind fun r6=>
 bif !r6.1.1 then some ((false,()),()) else bif !(jL (g3 a1) (g3 b2)) then some ((false,()),()) else bif !(jL (g4 a1) (g4 b2)) then some ((false,()),())
 else bif bne (g5 a1) (g5 b2) then some ((false,()),()) else bif bne (t6 a1) (t6 b2) then some ((false,()),()) else some ((true,()),())
def f18 (x:S31×S31×Unit):Option ((Bool×Unit)×(Unit)):=
 let a1:=x.1
 let b2:=x.2.1
 bif bne a1.1 b2.1 then some ((false,()),()) else bif bne a1.2.1 b2.2.1 then some ((false,()),()) else bif bne a1.2.2.1 b2.2.2.1 then some ((false,()),())
 else bif bne (g3 a1) (g3 b2) then some ((false,()),()) else bif bne (g4 a1) (g4 b2) then some ((false,()),()) else (f41 (g5 a1,g5 b2,())).bind fun r8=>bif !r8.1.1 then some ((false,()),())
 else (f42 (g6 a1,g6 b2,())).bind fun r10=>bif !r10.1.1 then some ((false,()),()) else bif bne (g7 a1) (g7 b2) then some ((false,()),()) else bif bne (g8 a1) (g8 b2) then some ((false,()),())
 else (f43 (g9 a1,g9 b2,())).bind fun r14=>bif !r14.1.1 then some ((false,()),()) else bif bne (dQ a1) (dQ b2) then some ((false,()),())
 else bif !(jF (fF a1) (fF b2)) then some ((false,()),()) else (f44 (gB a1,gB b2,())).bind fun r18=>bif !r18.1.1 then some ((false,()),()) else (f45 (fN a1,fN b2,())).bind fun r20=>
 bif !r20.1.1 then some ((false,()),()) else bif !(jF (fE a1) (fE b2)) then some ((false,()),()) else bif bne (jR a1) (jR b2) then some ((false,()),())
 else bif bne (kM a1) (kM b2) then some ((false,()),()) else bif bne (iM a1) (iM b2) then some ((false,()),()) else (f46 (t18 a1,t18 b2,())).bind fun r26=>
 bif !r26.1.1 then some ((false,()),()) else some ((true,()),())
def f19 (x:aN×aN×Unit):Option ((Bool×Unit)×(Unit)):=
 let a1:=x.1
 let b2:=x.2.1
 (f47 (a1.1,b2.1,())).bind fun r3=>bif !r3.1.1 then some ((false,()),()) else (f47 (a1.2.1,b2.2.1,())).bind fun r5=>bif !r5.1.1 then some ((false,()),())
 else bif bne a1.2.2.1 b2.2.2.1 then some ((false,()),()) else bif bne (g3 a1) (g3 b2) then some ((false,()),()) else bif bne (t4 a1) (t4 b2) then some ((false,()),()) else some ((true,()),())
def f48_8:Lp (List ByteArray×Int×Int×Unit) (List ByteArray×Int×Unit):=fun x=>
 let a3:=x.1
 let k4:=x.2.1
 let i5:=x.2.2.1
 bif blt i5 a3.length then (f72 (k4,())).bind fun r8=>bif aE i5 a3.length then some (.inl (a3.set i5.toNat r8.1.1,wr (k4+1),wr (i5+1),())) else none else some (.inr (a3,k4,()))
def f48 (x:List ByteArray×Int×Unit):Option ((Int×Unit)×(List ByteArray×Unit)):=
 (aA f48_8 (x.1,x.2.1,0,())).bind fun z12=>some ((z12.2.1,()),z12.1,())
def f20 (x:T8×Int×Unit):Option ((Int×Unit)×(T8×Unit)):=
 (f48 (x.1.1,x.2.1,())).bind fun r2=>(f48 (x.1.2.1,r2.1.1,())).bind fun r3=>some (r3.1,u1 (u0 x.1 r2.2.1) r3.2.1,())
def f97_8:Lp (List S11×Int×Int×Unit) (List S11×Int×Unit):=fun x=>
 let a3:=x.1
 let k4:=x.2.1
 let i5:=x.2.2.1
 bif blt i5 a3.length then bif aE i5 a3.length then let row8:=(a3.set i5.toNat ((k4,(a3.getD i5.toNat d2).1.2),(a3.getD i5.toNat d2).2))
 let v9:=wr (k4+1)
 bif aE i5 row8.length then let row10:=(row8.set i5.toNat (((row8.getD i5.toNat d2).1.1,v9,(row8.getD i5.toNat d2).1.2.2),(row8.getD i5.toNat d2).2))
 let v11:=wr (v9+1)
 bif aE i5 row10.length then let row13:=(row10.set i5.toNat (u2 (row10.getD i5.toNat d2).1 (FloatKind.f64.nearest v11),(row10.getD i5.toNat d2).2))
 let v14:=wr (v11+1)
 (f72 (v14,())).bind fun r15=>bif aE i5 row13.length then let row16:=(row13.set i5.toNat (u3 (row13.getD i5.toNat d2).1 r15.1.1,(row13.getD i5.toNat d2).2))
 let v17:=wr (v14+1)
 bif aE i5 row16.length then let row18:=(row16.set i5.toNat (((row16.getD i5.toNat d2).1.1,(row16.getD i5.toNat d2).1.2.1,(row16.getD i5.toNat d2).1.2.2.1,g3 (row16.getD i5.toNat d2).1,v17),(row16.getD i5.toNat d2).2))
 let v19:=wr (v17+1)
 bif aE i5 row18.length then let row20:=(row18.set i5.toNat ((row18.getD i5.toNat d2).1,(v19,(row18.getD i5.toNat d2).2.1.2),(row18.getD i5.toNat d2).2.2))
 let v21:=wr (v19+1)
 bif aE i5 row20.length then let row22:=(row20.set i5.toNat ((row20.getD i5.toNat d2).1,((row20.getD i5.toNat d2).2.1.1,v21,(row20.getD i5.toNat d2).2.1.2.2),(row20.getD i5.toNat d2).2.2))
 let v23:=wr (v21+1)
 bif aE i5 row22.length then let row25:=(row22.set i5.toNat ((row22.getD i5.toNat d2).1,u2 (row22.getD i5.toNat d2).2.1 (FloatKind.f64.nearest v23),(row22.getD i5.toNat d2).2.2))
 let v26:=wr (v23+1)
 (f72 (v26,())).bind fun r27=>bif aE i5 row25.length then let row28:=(row25.set i5.toNat ((row25.getD i5.toNat d2).1,u3 (row25.getD i5.toNat d2).2.1 r27.1.1,(row25.getD i5.toNat d2).2.2))
 let v29:=wr (v26+1)
 bif aE i5 row28.length then let row30:=(row28.set i5.toNat ((row28.getD i5.toNat d2).1,((row28.getD i5.toNat d2).2.1.1,(row28.getD i5.toNat d2).2.1.2.1,(row28.getD i5.toNat d2).2.1.2.2.1,g3 (row28.getD i5.toNat d2).2.1,v29),(row28.getD i5.toNat d2).2.2))
 let v31:=wr (v29+1)
 bif aE i5 row30.length then some (.inl (row30.set i5.toNat ((row30.getD i5.toNat d2).1,(row30.getD i5.toNat d2).2.1,v31),wr (v31+1),wr (i5+1),())) else none else none else none else none
 else none else none else none else none else none else none else none else some (.inr (a3,k4,()))
def f97 (x:List S11×Int×Unit):Option ((Int×Unit)×(List S11×Unit)):=
 (aA f97_8 (x.1,x.2.1,0,())).bind fun z35=>some ((z35.2.1,()),z35.1,())
def f98_8:Lp (List Int×Int×Int×Unit) (List Int×Int×Unit):=fun x=>
 let a3:=x.1
 let k4:=x.2.1
 let i5:=x.2.2.1
 bif blt i5 a3.length then bif aE i5 a3.length then some (.inl (a3.set i5.toNat k4,wr (k4+1),wr (i5+1),())) else none else some (.inr (a3,k4,()))
def f98 (x:List Int×Int×Unit):Option ((Int×Unit)×(List Int×Unit)):=
 (aA f98_8 (x.1,x.2.1,0,())).bind fun z11=>some ((z11.2.1,()),z11.1,())
def f49_8:Lp (List cW×Int×Int×Unit) (List cW×Int×Unit):=fun x=>
 let a3:=x.1
 let k4:=x.2.1
 let i5:=x.2.2.1
 bif blt i5 a3.length then bif aE i5 a3.length then let row8:=(put11 a3 i5 k4)
 let v9:=wr (k4+1)
 bif aE i5 row8.length then let row10:=(put12 row8 i5 v9)
 let v11:=wr (v9+1)
 bif aE i5 row10.length then let row12:=(put13 row10 i5 v11)
 bif aE i5 row12.length then (f97 ((g3 (row12.getD i5.toNat d6)).1,wr (v11+1),())).bind fun r14=>bif aE i5 row12.length then let row15:=(put14 row12 i5 r14.1.1)
 let v16:=wr (r14.1.1+1)
 bif aE i5 row15.length then let row17:=(put15 row15 i5 v16)
 let v18:=wr (v16+1)
 bif aE i5 row17.length then let row21:=(put16 row17 i5 (beq (v18.tmod (3 : Int)) 0))
 let v22:=wr (v18+1)
 bif aE i5 row21.length then let row23:=(put17 row21 i5 v22)
 bif aE i5 row23.length then (f98 (g7 (row23.getD i5.toNat d6),wr (v22+1),())).bind fun r25=>bif aE i5 row23.length then let row26:=(put18 row23 i5 r25.1.1)
 let v27:=wr (r25.1.1+1)
 bif aE i5 row26.length then let row28:=(put19 row26 i5 v27)
 let v29:=wr (v27+1)
 bif aE i5 row28.length then let row31:=(put20 row28 i5 (FloatKind.f64.nearest v29))
 let v32:=wr (v29+1)
 (f72 (v32,())).bind fun r33=>bif aE i5 row31.length then let row34:=(put21 row31 i5 r33.1.1)
 let v35:=wr (v32+1)
 bif aE i5 row34.length then some (.inl (put24 (put23 (put22 row34 i5 v35) i5 r25.2.1) i5 r14.2.1,wr (v35+1),wr (i5+1),())) else none else none else none else none else none else none else none
 else none else none else none else none else none else none else none else some (.inr (a3,k4,()))
def f49 (x:List cW×Int×Unit):Option ((Int×Unit)×(List cW×Unit)):=
 (aA f49_8 (x.1,x.2.1,0,())).bind fun z39=>some ((z39.2.1,()),z39.1,())
def f50_8:Lp (List jH×Int×Int×Unit) (List jH×Int×Unit):=fun x=>
 let a3:=x.1
 let k4:=x.2.1
 let i5:=x.2.2.1
 bif blt i5 a3.length then bif aE i5 a3.length then let row8:=(a3.set i5.toNat (k4,(a3.getD i5.toNat d7).2))
 let v9:=wr (k4+1)
 bif aE i5 row8.length then some (.inl (row8.set i5.toNat ((row8.getD i5.toNat d7).1,v9),wr (v9+1),wr (i5+1),())) else none else none else some (.inr (a3,k4,()))
def f50 (x:List jH×Int×Unit):Option ((Int×Unit)×(List jH×Unit)):=
 (aA f50_8 (x.1,x.2.1,0,())).bind fun z13=>some ((z13.2.1,()),z13.1,())
def f147_8:Lp (List eC×Int×Int×Unit) (List eC×Int×Unit):=fun x=>
 let a3:=x.1
 let k4:=x.2.1
 let i5:=x.2.2.1
 bif blt i5 a3.length then bif aE i5 a3.length then let row8:=(put25 a3 i5 k4)
 let v9:=wr (k4+1)
 bif aE i5 row8.length then let row10:=(put26 row8 i5 v9)
 let v11:=wr (v9+1)
 bif aE i5 row10.length then let row12:=(put27 row10 i5 v11)
 let v13:=wr (v11+1)
 bif aE i5 row12.length then let row15:=(put28 row12 i5 (FloatKind.f64.nearest v13))
 let v16:=wr (v13+1)
 (f72 (v16,())).bind fun r17=>bif aE i5 row15.length then let row18:=(put29 row15 i5 r17.1.1)
 let v19:=wr (v16+1)
 bif aE i5 row18.length then let row20:=(put30 row18 i5 v19)
 let v21:=wr (v19+1)
 bif aE i5 row20.length then let row22:=(put31 row20 i5 v21)
 bif aE i5 row22.length then (f52 ((row22.getD i5.toNat d3).2.2.2,wr (v21+1),())).bind fun r24=>some (.inl (put32 row22 i5 r24.2.1,r24.1.1,wr (i5+1),())) else none else none else none
 else none else none else none else none else none else some (.inr (a3,k4,()))
def f147 (x:List eC×Int×Unit):Option ((Int×Unit)×(List eC×Unit)):=
 (aA f147_8 (x.1,x.2.1,0,())).bind fun z26=>some ((z26.2.1,()),z26.1,())
def f181_8:Lp (List S14×Int×Int×Unit) (List S14×Int×Unit):=fun x=>
 let a3:=x.1
 let k4:=x.2.1
 let i5:=x.2.2.1
 bif blt i5 a3.length then bif aE i5 a3.length then let row8:=(put33 a3 i5 k4)
 bif aE i5 row8.length then (f52 ((row8.getD i5.toNat d5).2,wr (k4+1),())).bind fun r10=>some (.inl (put34 row8 i5 r10.2.1,r10.1.1,wr (i5+1),())) else none else none
 else some (.inr (a3,k4,()))
def f181 (x:List S14×Int×Unit):Option ((Int×Unit)×(List S14×Unit)):=
 (aA f181_8 (x.1,x.2.1,0,())).bind fun z12=>some ((z12.2.1,()),z12.1,())
def f148_8:Lp (List eV×Int×Int×Unit) (List eV×Int×Unit):=fun x=>
 let a3:=x.1
 let k4:=x.2.1
 let i5:=x.2.2.1
 bif blt i5 a3.length then bif aE i5 a3.length then let row10:=(put35 a3 i5 (beq (k4.tmod (3 : Int)) 0))
 let v11:=wr (k4+1)
 bif aE i5 row10.length then let row12:=(put36 row10 i5 v11)
 let v13:=wr (v11+1)
 bif aE i5 row12.length then let row14:=(put37 row12 i5 v13)
 let v15:=wr (v13+1)
 bif aE i5 row14.length then let row16:=(put38 row14 i5 v15)
 bif aE i5 row16.length then (f181 (t4 (row16.getD i5.toNat d4),wr (v15+1),())).bind fun r18=>some (.inl (put39 row16 i5 r18.2.1,r18.1.1,wr (i5+1),())) else none else none else none
 else none else none else some (.inr (a3,k4,()))
def f148 (x:List eV×Int×Unit):Option ((Int×Unit)×(List eV×Unit)):=
 (aA f148_8 (x.1,x.2.1,0,())).bind fun z20=>some ((z20.2.1,()),z20.1,())
def f99_8:Lp (List dH×Int×Int×Unit) (List dH×Int×Unit):=fun x=>
 let t3:=x.1
 let o4:=x.2.1
 let a5:=x.2.2.1
 bif blt a5 t3.length then bif aE a5 t3.length then let row8:=(put40 t3 a5 o4)
 let v9:=wr (o4+1)
 bif aE a5 row8.length then let row10:=(put41 row8 a5 v9)
 let v11:=wr (v9+1)
 bif aE a5 row10.length then let row12:=(put42 row10 a5 v11)
 let v13:=wr (v11+1)
 bif aE a5 row12.length then let row16:=(put43 row12 a5 (beq (v13.tmod (3 : Int)) 0))
 bif aE a5 row16.length then (f52 (g4 (row16.getD a5.toNat iJ),wr (v13+1),())).bind fun r18=>bif aE a5 row16.length then let row19:=(put44 row16 a5 r18.1.1)
 let v20:=wr (r18.1.1+1)
 bif aE a5 row19.length then let row21:=(put45 row19 a5 v20)
 let v22:=wr (v20+1)
 bif aE a5 row21.length then let row23:=(put46 row21 a5 v22)
 let v24:=wr (v22+1)
 bif aE a5 row23.length then let row25:=(put47 row23 a5 v24)
 let v26:=wr (v24+1)
 bif aE a5 row25.length then let row27:=(put48 row25 a5 v26)
 bif aE a5 row27.length then (f147 (dQ (row27.getD a5.toNat iJ),wr (v26+1),())).bind fun r29=>bif aE a5 row27.length then (f148 (fF (row27.getD a5.toNat iJ),r29.1.1,())).bind fun r30=>
 bif aE a5 row27.length then let row33:=(put49 row27 a5 (beq (r30.1.1.tmod (3 : Int)) 0))
 let v34:=wr (r30.1.1+1)
 bif aE a5 row33.length then let row37:=(put50 row33 a5 (beq (v34.tmod (3 : Int)) 0))
 let v38:=wr (v34+1)
 bif aE a5 row37.length then let row39:=(put51 row37 a5 v38)
 bif aE a5 row39.length then (f52 ((fE (row39.getD a5.toNat iJ)).2.1,wr (v38+1),())).bind fun r41=>(f72 r41.1).bind fun r42=>
 bif aE a5 row39.length then let row43:=(put52 row39 a5 r42.1.1)
 let v44:=wr (r41.1.1+1)
 bif aE a5 row43.length then some (.inl (put57 (put56 (put55 (put54 (put53 row43 a5 v44) a5 r41.2.1) a5 r30.2.1) a5 r29.2.1) a5 r18.2.1,wr (v44+1),wr (a5+1),())) else none else none else none
 else none else none else none else none else none else none else none else none else none else none else none else none else none else none else none else some (.inr (t3,o4,()))
def f99 (x:List dH×Int×Unit):Option ((Int×Unit)×(List dH×Unit)):=
 (aA f99_8 (x.1,x.2.1,0,())).bind fun z48=>some ((z48.2.1,()),z48.1,())
def f51_8:Lp (List dM×Int×Int×Unit) (List dM×Int×Unit):=fun x=>
 let a3:=x.1
 let k4:=x.2.1
 let i5:=x.2.2.1
 bif blt i5 a3.length then bif aE i5 a3.length then let row8:=(put58 a3 i5 k4)
 let v9:=wr (k4+1)
 bif aE i5 row8.length then let row10:=(put59 row8 i5 v9)
 let v11:=wr (v9+1)
 bif aE i5 row10.length then let row12:=(put60 row10 i5 v11)
 let v13:=wr (v11+1)
 bif aE i5 row12.length then let row15:=(put61 row12 i5 (FloatKind.f64.nearest v13))
 let v16:=wr (v13+1)
 (f72 (v16,())).bind fun r17=>bif aE i5 row15.length then let row18:=(put62 row15 i5 r17.1.1)
 let v19:=wr (v16+1)
 bif aE i5 row18.length then let row20:=(put63 row18 i5 v19)
 bif aE i5 row20.length then (f99 ((row20.getD i5.toNat d11).2.2.1,wr (v19+1),())).bind fun r22=>bif aE i5 row20.length then let row23:=(put64 row20 i5 r22.1.1)
 let v24:=wr (r22.1.1+1)
 bif aE i5 row23.length then let row27:=(put65 row23 i5 (beq (v24.tmod (3 : Int)) 0))
 bif aE i5 row27.length then (f52 (t5 (row27.getD i5.toNat d11),wr (v24+1),())).bind fun r29=>some (.inl (put67 (put66 row27 i5 r29.2.1) i5 r22.2.1,r29.1.1,wr (i5+1),())) else none
 else none else none else none else none else none else none else none else none else none else some (.inr (a3,k4,()))
def f51 (x:List dM×Int×Unit):Option ((Int×Unit)×(List dM×Unit)):=
 (aA f51_8 (x.1,x.2.1,0,())).bind fun z31=>some ((z31.2.1,()),z31.1,())
def f53 (x:(Int×List S1×ByteArray×Unit)×Int×Unit):Option ((Int×Unit)×((Int×List S1×ByteArray×Unit)×Unit)):=
 (f52 (x.1.2.1,x.2.1,())).bind fun r2=>some (r2.1,(x.1.1,r2.2.1,x.1.2.2.1,()),())
def f100_8:Lp (List lY×Int×Int×Unit) (List lY×Int×Unit):=fun x=>
 let a3:=x.1
 let k4:=x.2.1
 let i5:=x.2.2.1
 bif blt i5 a3.length then bif aE i5 a3.length then let row8:=(a3.set i5.toNat (k4,(a3.getD i5.toNat d0).2))
 let v9:=wr (k4+1)
 bif aE i5 row8.length then let row10:=(row8.set i5.toNat ((row8.getD i5.toNat d0).1,v9,(row8.getD i5.toNat d0).2.2))
 let v11:=wr (v9+1)
 bif aE i5 row10.length then let row12:=(row10.set i5.toNat (u2 (row10.getD i5.toNat d0) v11))
 let v13:=wr (v11+1)
 bif aE i5 row12.length then let row14:=(row12.set i5.toNat (u3 (row12.getD i5.toNat d0) v13))
 let v15:=wr (v13+1)
 (f72 (v15,())).bind fun r16=>
 bif aE i5 row14.length then some (.inl (row14.set i5.toNat ((row14.getD i5.toNat d0).1,(row14.getD i5.toNat d0).2.1,(row14.getD i5.toNat d0).2.2.1,g3 (row14.getD i5.toNat d0),r16.1.1),wr (v15+1),wr (i5+1),()))
 else none else none else none else none else none else some (.inr (a3,k4,()))
def f100 (x:List lY×Int×Unit):Option ((Int×Unit)×(List lY×Unit)):=
 (aA f100_8 (x.1,x.2.1,0,())).bind fun z20=>some ((z20.2.1,()),z20.1,())
def f54 (x:T0×Int×Unit):Option ((Int×Unit)×(T0×Unit)):=
 (f100 (x.1.2.1,x.2.1,())).bind fun r2=>(f48 (x.1.2.2.1,r2.1.1,())).bind fun r3=>some (r3.1,u2 (u1 x.1 r2.2.1) r3.2.1,())
def f21 (x:T4×Int×Unit):Option ((Int×Unit)×(T4×Unit)):=
 (f49 (g5 x.1,x.2.1,())).bind fun r2=>(f50 (g6 x.1,r2.1.1,())).bind fun r3=>(f51 (g9 x.1,r3.1.1,())).bind fun r4=>(f52 (gB x.1,r4.1.1,())).bind fun r5=>
 (f53 ((fN x.1,fE x.1,jR x.1,()),r5.1.1,())).bind fun r6=>(f54 ((g20 x.1,g21 x.1,g22 x.1,g23 x.1,g24 x.1,g25 x.1,g26 x.1,()),r6.1.1,())).bind fun r7=>
 some (r7.1,u22 (u21 (u14 (u12 (u9 (u6 (u5 x.1 r2.2.1) r3.2.1) r4.2.1) r5.2.1) r6.2.1.2.1) r7.2.1.2.1) r7.2.1.2.2.1,())
def f101_8:Lp (List S11×Int×Int×Unit) (((Int×Unit)⊕(Int×Unit))):=fun x=>
 let a3:=x.1
 let k4:=x.2.1
 let i5:=x.2.2.1
 bif blt i5 a3.length then bif aE i5 a3.length then bif bne (a3.getD i5.toNat d2).1.1 k4 then some (.inr (.inr (-1,()))) else let v10:=(wr (k4+1))
 bif aE i5 a3.length then bif bne (a3.getD i5.toNat d2).1.2.1 v10 then some (.inr (.inr (-1,()))) else let v13:=(wr (v10+1))
 bif aE i5 a3.length then bif dX (a3.getD i5.toNat d2).1.2.2.1 (FloatKind.f64.nearest v13) != some .eq then some (.inr (.inr (-1,()))) else let v17:=(wr (v13+1))
 bif aE i5 a3.length then (f72 (v17,())).bind fun r19=>bif !(jL (g3 (a3.getD i5.toNat d2).1) r19.1.1) then some (.inr (.inr (-1,()))) else let v21:=(wr (v17+1))
 bif aE i5 a3.length then bif bne (t4 (a3.getD i5.toNat d2).1) v21 then some (.inr (.inr (-1,()))) else let v24:=(wr (v21+1))
 bif aE i5 a3.length then bif bne (a3.getD i5.toNat d2).2.1.1 v24 then some (.inr (.inr (-1,()))) else let v27:=(wr (v24+1))
 bif aE i5 a3.length then bif bne (a3.getD i5.toNat d2).2.1.2.1 v27 then some (.inr (.inr (-1,()))) else let v30:=(wr (v27+1))
 bif aE i5 a3.length then bif dX (a3.getD i5.toNat d2).2.1.2.2.1 (FloatKind.f64.nearest v30) != some .eq then some (.inr (.inr (-1,()))) else let v34:=(wr (v30+1))
 bif aE i5 a3.length then (f72 (v34,())).bind fun r36=>bif !(jL (g3 (a3.getD i5.toNat d2).2.1) r36.1.1) then some (.inr (.inr (-1,()))) else let v38:=(wr (v34+1))
 bif aE i5 a3.length then bif bne (t4 (a3.getD i5.toNat d2).2.1) v38 then some (.inr (.inr (-1,()))) else let v41:=(wr (v38+1))
 bif aE i5 a3.length then bif bne (a3.getD i5.toNat d2).2.2 v41 then some (.inr (.inr (-1,()))) else some (.inl (a3,wr (v41+1),wr (i5+1),())) else none else none else none else none else none
 else none else none else none else none else none else none else some (.inr (.inl (k4,())))
def f101 (x:List S11×Int×Unit):Option ((Int×Unit)×(Unit)):=
 (aA f101_8 (x.1,x.2.1,0,())).bind fun y50=>match y50 with
 | .inl z46=>some ((z46.1,()),())
 | .inr z48=>some ((z48.1,()),())
def f102_8:Lp (List Int×Int×Int×Unit) (((Int×Unit)⊕(Int×Unit))):=fun x=>
 let a3:=x.1
 let k4:=x.2.1
 let i5:=x.2.2.1
 bif blt i5 a3.length then bif aE i5 a3.length then bif bne (a3.getD i5.toNat (0 : Int)) k4 then some (.inr (.inr (-1,()))) else some (.inl (a3,wr (k4+1),wr (i5+1),())) else none
 else some (.inr (.inl (k4,())))
def f102 (x:List Int×Int×Unit):Option ((Int×Unit)×(Unit)):=
 (aA f102_8 (x.1,x.2.1,0,())).bind fun y16=>match y16 with
 | .inl z12=>some ((z12.1,()),())
 | .inr z14=>some ((z14.1,()),())
def f55_8:Lp (List cW×Int×Int×Unit) (((Int×Unit)⊕(Int×Unit))):=fun x=>
 let t3:=x.1
 let o4:=x.2.1
 let a5:=x.2.2.1
 bif blt a5 t3.length then bif aE a5 t3.length then bif bne (t3.getD a5.toNat d6).1 o4 then some (.inr (.inr (-1,()))) else let v10:=(wr (o4+1))
 bif aE a5 t3.length then bif bne (t3.getD a5.toNat d6).2.1 v10 then some (.inr (.inr (-1,()))) else let v13:=(wr (v10+1))
 bif aE a5 t3.length then bif bne (t3.getD a5.toNat d6).2.2.1 v13 then some (.inr (.inr (-1,())))
 else bif aE a5 t3.length then (f101 ((g3 (t3.getD a5.toNat d6)).1,wr (v13+1),())).bind fun r18=>bif blt r18.1.1 0 then some (.inr (.inr (-1,())))
 else bif aE a5 t3.length then bif bne (g3 (t3.getD a5.toNat d6)).2 r18.1.1 then some (.inr (.inr (-1,()))) else let v22:=(wr (r18.1.1+1))
 bif aE a5 t3.length then bif bne (g4 (t3.getD a5.toNat d6)) v22 then some (.inr (.inr (-1,()))) else let v25:=(wr (v22+1))
 bif aE a5 t3.length then bif !(jF (g5 (t3.getD a5.toNat d6)) (beq (v25.tmod (3 : Int)) 0)) then some (.inr (.inr (-1,()))) else let v30:=(wr (v25+1))
 bif aE a5 t3.length then bif bne (g6 (t3.getD a5.toNat d6)) v30 then some (.inr (.inr (-1,()))) else bif aE a5 t3.length then (f102 (g7 (t3.getD a5.toNat d6),wr (v30+1),())).bind fun r35=>
 bif blt r35.1.1 0 then some (.inr (.inr (-1,()))) else bif aE a5 t3.length then bif bne (g8 (t3.getD a5.toNat d6)) r35.1.1 then some (.inr (.inr (-1,()))) else let v39:=(wr (r35.1.1+1))
 bif aE a5 t3.length then bif bne (g9 (t3.getD a5.toNat d6)) v39 then some (.inr (.inr (-1,()))) else let v42:=(wr (v39+1))
 bif aE a5 t3.length then bif dX (dQ (t3.getD a5.toNat d6)) (FloatKind.f64.nearest v42) != some .eq then some (.inr (.inr (-1,()))) else let v46:=(wr (v42+1))
 bif aE a5 t3.length then (f72 (v46,())).bind fun r48=>bif !(jL (fF (t3.getD a5.toNat d6)) r48.1.1) then some (.inr (.inr (-1,()))) else let v50:=(wr (v46+1))
 bif aE a5 t3.length then bif bne (t12 (t3.getD a5.toNat d6)) v50 then some (.inr (.inr (-1,()))) else some (.inl (t3,wr (v50+1),wr (a5+1),())) else none else none else none else none
 else none else none else none else none else none else none else none else none else none else none else some (.inr (.inl (o4,())))
def f55 (x:List cW×Int×Unit):Option ((Int×Unit)×(Unit)):=
 (aA f55_8 (x.1,x.2.1,0,())).bind fun y59=>match y59 with
 | .inl z55=>some ((z55.1,()),())
 | .inr z57=>some ((z57.1,()),())
def f56_8:Lp (List jH×Int×Int×Unit) (((Int×Unit)⊕(Int×Unit))):=fun x=>
 let a3:=x.1
 let k4:=x.2.1
 let i5:=x.2.2.1
 bif blt i5 a3.length then bif aE i5 a3.length then bif bne (a3.getD i5.toNat d7).1 k4 then some (.inr (.inr (-1,()))) else let v10:=(wr (k4+1))
 bif aE i5 a3.length then bif bne (a3.getD i5.toNat d7).2 v10 then some (.inr (.inr (-1,()))) else some (.inl (a3,wr (v10+1),wr (i5+1),())) else none else none else some (.inr (.inl (k4,())))
def f56 (x:List jH×Int×Unit):Option ((Int×Unit)×(Unit)):=
 (aA f56_8 (x.1,x.2.1,0,())).bind fun y19=>match y19 with
 | .inl z15=>some ((z15.1,()),())
 | .inr z17=>some ((z17.1,()),())
def f58_8:Lp (List S1×Int×Int×Unit) (((Int×Unit)⊕(Int×Unit))):=fun x=>
 let a3:=x.1
 let k4:=x.2.1
 let i5:=x.2.2.1
 bif blt i5 a3.length then bif aE i5 a3.length then bif bne (a3.getD i5.toNat d1).1 k4 then some (.inr (.inr (-1,()))) else let v10:=(wr (k4+1))
 bif aE i5 a3.length then bif bne (a3.getD i5.toNat d1).2.1 v10 then some (.inr (.inr (-1,()))) else let v13:=(wr (v10+1))
 bif aE i5 a3.length then bif dX (a3.getD i5.toNat d1).2.2.1 (FloatKind.f64.nearest v13) != some .eq then some (.inr (.inr (-1,()))) else let v17:=(wr (v13+1))
 bif aE i5 a3.length then (f72 (v17,())).bind fun r19=>bif !(jL (g3 (a3.getD i5.toNat d1)) r19.1.1) then some (.inr (.inr (-1,()))) else let v21:=(wr (v17+1))
 bif aE i5 a3.length then bif bne (t4 (a3.getD i5.toNat d1)) v21 then some (.inr (.inr (-1,()))) else some (.inl (a3,wr (v21+1),wr (i5+1),())) else none else none else none else none else none
 else some (.inr (.inl (k4,())))
def f58 (x:List S1×Int×Unit):Option ((Int×Unit)×(Unit)):=
 (aA f58_8 (x.1,x.2.1,0,())).bind fun y30=>match y30 with
 | .inl z26=>some ((z26.1,()),())
 | .inr z28=>some ((z28.1,()),())
def f149_8:Lp (List eC×Int×Int×Unit) (((Int×Unit)⊕(Int×Unit))):=fun x=>
 let a3:=x.1
 let k4:=x.2.1
 let i5:=x.2.2.1
 bif blt i5 a3.length then bif aE i5 a3.length then bif bne (a3.getD i5.toNat d3).1 k4 then some (.inr (.inr (-1,()))) else let v10:=(wr (k4+1))
 bif aE i5 a3.length then bif bne (a3.getD i5.toNat d3).2.1.1 v10 then some (.inr (.inr (-1,()))) else let v13:=(wr (v10+1))
 bif aE i5 a3.length then bif bne (a3.getD i5.toNat d3).2.1.2.1 v13 then some (.inr (.inr (-1,()))) else let v16:=(wr (v13+1))
 bif aE i5 a3.length then bif dX (a3.getD i5.toNat d3).2.1.2.2.1 (FloatKind.f64.nearest v16) != some .eq then some (.inr (.inr (-1,()))) else let v20:=(wr (v16+1))
 bif aE i5 a3.length then (f72 (v20,())).bind fun r22=>bif !(jL (g3 (a3.getD i5.toNat d3).2.1) r22.1.1) then some (.inr (.inr (-1,()))) else let v24:=(wr (v20+1))
 bif aE i5 a3.length then bif bne (t4 (a3.getD i5.toNat d3).2.1) v24 then some (.inr (.inr (-1,()))) else let v27:=(wr (v24+1))
 bif aE i5 a3.length then bif bne (a3.getD i5.toNat d3).2.2.1 v27 then some (.inr (.inr (-1,()))) else bif aE i5 a3.length then (f58 ((a3.getD i5.toNat d3).2.2.2,wr (v27+1),())).bind fun r32=>
 bif blt r32.1.1 0 then some (.inr (.inr (-1,()))) else some (.inl (a3,r32.1.1,wr (i5+1),())) else none else none else none else none else none else none else none else none
 else some (.inr (.inl (k4,())))
def f149 (x:List eC×Int×Unit):Option ((Int×Unit)×(Unit)):=
 (aA f149_8 (x.1,x.2.1,0,())).bind fun y39=>match y39 with
 | .inl z35=>some ((z35.1,()),())
 | .inr z37=>some ((z37.1,()),())
def f182_8:Lp (List S14×Int×Int×Unit) (((Int×Unit)⊕(Int×Unit))):=fun x=>
 let a3:=x.1
 let k4:=x.2.1
 let i5:=x.2.2.1
 bif blt i5 a3.length then bif aE i5 a3.length then bif bne (a3.getD i5.toNat d5).1 k4 then some (.inr (.inr (-1,())))
 else bif aE i5 a3.length then (f58 ((a3.getD i5.toNat d5).2,wr (k4+1),())).bind fun r12=>bif blt r12.1.1 0 then some (.inr (.inr (-1,()))) else some (.inl (a3,r12.1.1,wr (i5+1),()))
 else none else none else some (.inr (.inl (k4,())))
def f182 (x:List S14×Int×Unit):Option ((Int×Unit)×(Unit)):=
 (aA f182_8 (x.1,x.2.1,0,())).bind fun y19=>match y19 with
 | .inl z15=>some ((z15.1,()),())
 | .inr z17=>some ((z17.1,()),())
def f150_8:Lp (List eV×Int×Int×Unit) (((Int×Unit)⊕(Int×Unit))):=fun x=>
 let a3:=x.1
 let k4:=x.2.1
 let i5:=x.2.2.1
 bif blt i5 a3.length then bif aE i5 a3.length then bif !(jF (a3.getD i5.toNat d4).1 (beq (k4.tmod (3 : Int)) 0)) then some (.inr (.inr (-1,()))) else let v12:=(wr (k4+1))
 bif aE i5 a3.length then bif bne (a3.getD i5.toNat d4).2.1 v12 then some (.inr (.inr (-1,()))) else let v15:=(wr (v12+1))
 bif aE i5 a3.length then bif bne (a3.getD i5.toNat d4).2.2.1 v15 then some (.inr (.inr (-1,()))) else let v18:=(wr (v15+1))
 bif aE i5 a3.length then bif bne (g3 (a3.getD i5.toNat d4)) v18 then some (.inr (.inr (-1,()))) else bif aE i5 a3.length then (f182 (t4 (a3.getD i5.toNat d4),wr (v18+1),())).bind fun r23=>
 bif blt r23.1.1 0 then some (.inr (.inr (-1,()))) else some (.inl (a3,r23.1.1,wr (i5+1),())) else none else none else none else none else none else some (.inr (.inl (k4,())))
def f150 (x:List eV×Int×Unit):Option ((Int×Unit)×(Unit)):=
 (aA f150_8 (x.1,x.2.1,0,())).bind fun y30=>match y30 with
 | .inl z26=>some ((z26.1,()),())
 | .inr z28=>some ((z28.1,()),())
def f103_8:Lp (List dH×Int×Int×Unit) (((Int×Unit)⊕(Int×Unit))):=fun x=>
 let t3:=x.1
 let o4:=x.2.1
 let a5:=x.2.2.1
 bif blt a5 t3.length then bif aE a5 t3.length then bif bne (t3.getD a5.toNat iJ).1 o4 then some (.inr (.inr (-1,()))) else let v10:=(wr (o4+1))
 bif aE a5 t3.length then bif bne (t3.getD a5.toNat iJ).2.1 v10 then some (.inr (.inr (-1,()))) else let v13:=(wr (v10+1))
 bif aE a5 t3.length then bif bne (t3.getD a5.toNat iJ).2.2.1 v13 then some (.inr (.inr (-1,()))) else let v16:=(wr (v13+1))
 bif aE a5 t3.length then bif !(jF (g3 (t3.getD a5.toNat iJ)) (beq (v16.tmod (3 : Int)) 0)) then some (.inr (.inr (-1,())))
 else bif aE a5 t3.length then (f58 (g4 (t3.getD a5.toNat iJ),wr (v16+1),())).bind fun r23=>bif blt r23.1.1 0 then some (.inr (.inr (-1,())))
 else bif aE a5 t3.length then bif bne (g5 (t3.getD a5.toNat iJ)) r23.1.1 then some (.inr (.inr (-1,()))) else let v27:=(wr (r23.1.1+1))
 bif aE a5 t3.length then bif bne (g6 (t3.getD a5.toNat iJ)) v27 then some (.inr (.inr (-1,()))) else let v30:=(wr (v27+1))
 bif aE a5 t3.length then bif bne (g7 (t3.getD a5.toNat iJ)) v30 then some (.inr (.inr (-1,()))) else let v33:=(wr (v30+1))
 bif aE a5 t3.length then bif bne (g8 (t3.getD a5.toNat iJ)) v33 then some (.inr (.inr (-1,()))) else let v36:=(wr (v33+1))
 bif aE a5 t3.length then bif bne (g9 (t3.getD a5.toNat iJ)) v36 then some (.inr (.inr (-1,()))) else bif aE a5 t3.length then (f149 (dQ (t3.getD a5.toNat iJ),wr (v36+1),())).bind fun r41=>
 bif blt r41.1.1 0 then some (.inr (.inr (-1,()))) else bif aE a5 t3.length then (f150 (fF (t3.getD a5.toNat iJ),r41.1.1,())).bind fun r44=>bif blt r44.1.1 0 then some (.inr (.inr (-1,())))
 else bif aE a5 t3.length then bif !(jF (gB (t3.getD a5.toNat iJ)) (beq (r44.1.1.tmod (3 : Int)) 0)) then some (.inr (.inr (-1,()))) else let v50:=(wr (r44.1.1+1))
 bif aE a5 t3.length then bif !(jF (fN (t3.getD a5.toNat iJ)) (beq (v50.tmod (3 : Int)) 0)) then some (.inr (.inr (-1,()))) else let v55:=(wr (v50+1))
 bif aE a5 t3.length then bif bne (fE (t3.getD a5.toNat iJ)).1 v55 then some (.inr (.inr (-1,())))
 else bif aE a5 t3.length then (f58 ((fE (t3.getD a5.toNat iJ)).2.1,wr (v55+1),())).bind fun r60=>bif blt r60.1.1 0 then some (.inr (.inr (-1,())))
 else bif aE a5 t3.length then (f72 r60.1).bind fun r63=>bif !(jL (fE (t3.getD a5.toNat iJ)).2.2 r63.1.1) then some (.inr (.inr (-1,()))) else let v65:=(wr (r60.1.1+1))
 bif aE a5 t3.length then bif bne (t15 (t3.getD a5.toNat iJ)) v65 then some (.inr (.inr (-1,()))) else some (.inl (t3,wr (v65+1),wr (a5+1),())) else none else none else none else none
 else none else none else none else none else none else none else none else none else none else none else none else none else none else none else some (.inr (.inl (o4,())))
def f103 (x:List dH×Int×Unit):Option ((Int×Unit)×(Unit)):=
 (aA f103_8 (x.1,x.2.1,0,())).bind fun y74=>match y74 with
 | .inl z70=>some ((z70.1,()),())
 | .inr z72=>some ((z72.1,()),())
def f57_8:Lp (List dM×Int×Int×Unit) (((Int×Unit)⊕(Int×Unit))):=fun x=>
 let a3:=x.1
 let k4:=x.2.1
 let i5:=x.2.2.1
 bif blt i5 a3.length then bif aE i5 a3.length then bif bne (a3.getD i5.toNat d11).1 k4 then some (.inr (.inr (-1,()))) else let v10:=(wr (k4+1))
 bif aE i5 a3.length then bif bne (a3.getD i5.toNat d11).2.1.1 v10 then some (.inr (.inr (-1,()))) else let v13:=(wr (v10+1))
 bif aE i5 a3.length then bif bne (a3.getD i5.toNat d11).2.1.2.1 v13 then some (.inr (.inr (-1,()))) else let v16:=(wr (v13+1))
 bif aE i5 a3.length then bif dX (a3.getD i5.toNat d11).2.1.2.2.1 (FloatKind.f64.nearest v16) != some .eq then some (.inr (.inr (-1,()))) else let v20:=(wr (v16+1))
 bif aE i5 a3.length then (f72 (v20,())).bind fun r22=>bif !(jL (g3 (a3.getD i5.toNat d11).2.1) r22.1.1) then some (.inr (.inr (-1,()))) else let v24:=(wr (v20+1))
 bif aE i5 a3.length then bif bne (t4 (a3.getD i5.toNat d11).2.1) v24 then some (.inr (.inr (-1,())))
 else bif aE i5 a3.length then (f103 ((a3.getD i5.toNat d11).2.2.1,wr (v24+1),())).bind fun r29=>bif blt r29.1.1 0 then some (.inr (.inr (-1,())))
 else bif aE i5 a3.length then bif bne (g3 (a3.getD i5.toNat d11)) r29.1.1 then some (.inr (.inr (-1,()))) else let v33:=(wr (r29.1.1+1))
 bif aE i5 a3.length then bif !(jF (g4 (a3.getD i5.toNat d11)) (beq (v33.tmod (3 : Int)) 0)) then some (.inr (.inr (-1,())))
 else bif aE i5 a3.length then (f58 (t5 (a3.getD i5.toNat d11),wr (v33+1),())).bind fun r40=>bif blt r40.1.1 0 then some (.inr (.inr (-1,()))) else some (.inl (a3,r40.1.1,wr (i5+1),()))
 else none else none else none else none else none else none else none else none else none else none else some (.inr (.inl (k4,())))
def f57 (x:List dM×Int×Unit):Option ((Int×Unit)×(Unit)):=
 (aA f57_8 (x.1,x.2.1,0,())).bind fun y47=>match y47 with
 | .inl z43=>some ((z43.1,()),())
 | .inr z45=>some ((z45.1,()),())
def f59 (x:S20×Int×Unit):Option ((Int×Unit)×(Unit)):=
 (f58 (x.1.2.1,x.2.1,())).bind fun r3=>bif blt r3.1.1 0 then some ((-1,()),()) else some (r3.1,())
def f104_8:Lp (List lY×Int×Int×Unit) (((Int×Unit)⊕(Int×Unit))):=fun x=>
 let a3:=x.1
 let k4:=x.2.1
 let i5:=x.2.2.1
 bif blt i5 a3.length then bif aE i5 a3.length then bif bne (a3.getD i5.toNat d0).1 k4 then some (.inr (.inr (-1,()))) else let v10:=(wr (k4+1))
 bif aE i5 a3.length then bif bne (a3.getD i5.toNat d0).2.1 v10 then some (.inr (.inr (-1,()))) else let v13:=(wr (v10+1))
 bif aE i5 a3.length then bif bne (a3.getD i5.toNat d0).2.2.1 v13 then some (.inr (.inr (-1,()))) else let v16:=(wr (v13+1))
 bif aE i5 a3.length then bif bne (g3 (a3.getD i5.toNat d0)) v16 then some (.inr (.inr (-1,()))) else let v19:=(wr (v16+1))
 bif aE i5 a3.length then (f72 (v19,())).bind fun r21=>bif !(jL (t4 (a3.getD i5.toNat d0)) r21.1.1) then some (.inr (.inr (-1,()))) else some (.inl (a3,wr (v19+1),wr (i5+1),())) else none
 else none else none else none else none else some (.inr (.inl (k4,())))
def f104 (x:List lY×Int×Unit):Option ((Int×Unit)×(Unit)):=
 (aA f104_8 (x.1,x.2.1,0,())).bind fun y29=>match y29 with
 | .inl z25=>some ((z25.1,()),())
 | .inr z27=>some ((z27.1,()),())
def f105_8:Lp (List ByteArray×Int×Int×Unit) (((Int×Unit)⊕(Int×Unit))):=fun x=>
 let a3:=x.1
 let k4:=x.2.1
 let i5:=x.2.2.1
 bif blt i5 a3.length then bif aE i5 a3.length then (f72 (k4,())).bind fun r9=>bif !(jL (a3.getD i5.toNat (⟨#[]⟩ : ByteArray)) r9.1.1) then some (.inr (.inr (-1,())))
 else some (.inl (a3,wr (k4+1),wr (i5+1),())) else none else some (.inr (.inl (k4,())))
def f105 (x:List ByteArray×Int×Unit):Option ((Int×Unit)×(Unit)):=
 (aA f105_8 (x.1,x.2.1,0,())).bind fun y17=>match y17 with
 | .inl z13=>some ((z13.1,()),())
 | .inr z15=>some ((z15.1,()),())
def f60 (x:S27×Int×Unit):Option ((Int×Unit)×(Unit)):=
 let a1:=x.1
 (f104 (a1.2.1,x.2.1,())).bind fun r3=>bif blt r3.1.1 0 then some ((-1,()),()) else (f105 (a1.2.2.1,r3.1.1,())).bind fun r5=>bif blt r5.1.1 0 then some ((-1,()),()) else some (r5.1,())
def f22 (x:S31×Int×Unit):Option ((Int×Unit)×(Unit)):=
 let a1:=x.1
 (f55 (g5 a1,x.2.1,())).bind fun r3=>bif blt r3.1.1 0 then some ((-1,()),()) else (f56 (g6 a1,r3.1.1,())).bind fun r5=>bif blt r5.1.1 0 then some ((-1,()),())
 else (f57 (g9 a1,r5.1.1,())).bind fun r7=>bif blt r7.1.1 0 then some ((-1,()),()) else (f58 (gB a1,r7.1.1,())).bind fun r9=>bif blt r9.1.1 0 then some ((-1,()),())
 else (f59 (fN a1,r9.1.1,())).bind fun r11=>bif blt r11.1.1 0 then some ((-1,()),()) else (f60 (t18 a1,r11.1.1,())).bind fun r13=>bif blt r13.1.1 0 then some ((-1,()),())
 else some (r13.1,())
def ps4 : List VS := [.val Y5, .val Y9, .val (.int .i64)]
def rs4 : List VS := [.val .bool]
def f4 (x:aZ×aN×Int×Unit):Option ((Bool×Unit)×(Unit)):=
 let aC1:=x.1
 let aIn2:=x.2.1
 let aPace3:=x.2.2.1
 (f5 (aC1,1048576,())).bind fun r4=>bif blt r4.1.1 0 then some ((true,()),()) else (f14 (aIn2,r4.1.1,())).bind fun r6=>bif blt r6.1.1 0 then some ((true,()),())
 else (f7 (aC1,())).bind fun r8=>(f16 (aIn2,())).bind fun r9=>(f15 (r8.1.1.1,(r9.1.1.1,r9.1.1.2.1,r9.1.1.2.2.1,g3 r9.1.1,g4 r9.1.1),aPace3,())).bind fun r10=>
 (f7 (aC1,())).bind fun r11=>(f16 (aIn2,())).bind fun r12=>(f17 (r11.1.1.1,(r12.1.1.1,r12.1.1.2.1,r12.1.1.2.2.1,g3 r12.1.1,g4 r12.1.1),aPace3,())).bind fun r13=>
 (f18 ((r13.1.1.1,r13.1.1.2.1,r13.1.1.2.2.1,g3 r13.1.1,g4 r13.1.1,g5 r13.1.1,g6 r13.1.1,g7 r13.1.1,g8 r13.1.1,g9 r13.1.1,dQ r13.1.1,fF r13.1.1,gB r13.1.1,(fN r13.1.1,fE r13.1.1,jR r13.1.1),kM r13.1.1,iM r13.1.1,g18 r13.1.1,g19 r13.1.1,g20 r13.1.1,g21 r13.1.1,g22 r13.1.1,g23 r13.1.1,g24 r13.1.1,g25 r13.1.1,g26 r13.1.1),r10.1.1,())).bind fun r14=>
 bif !r14.1.1 then some ((false,()),()) else (f7 (aC1,())).bind fun r16=>(f10 (r11.1.1.1,r16.1.1.1,())).bind fun r17=>bif !r17.1.1 then some ((false,()),())
 else (f16 (aIn2,())).bind fun r19=>(f19 ((r12.1.1.1,r12.1.1.2.1,r12.1.1.2.2.1,g3 r12.1.1,g4 r12.1.1),(r19.1.1.1,r19.1.1.2.1,r19.1.1.2.2.1,g3 r19.1.1,g4 r19.1.1),())).bind fun r20=>
 bif !r20.1.1 then some ((false,()),()) else (f11 (r11.1.1,1,())).bind fun r22=>(f20 (r12.1.1,r22.1.1,())).bind fun r23=>
 (bK (blt r23.1.1 0) (some true) ((f18 ((r13.1.1.1,r13.1.1.2.1,r13.1.1.2.2.1,g3 r13.1.1,g4 r13.1.1,g5 r13.1.1,g6 r13.1.1,g7 r13.1.1,g8 r13.1.1,g9 r13.1.1,dQ r13.1.1,fF r13.1.1,gB r13.1.1,(fN r13.1.1,fE r13.1.1,jR r13.1.1),kM r13.1.1,iM r13.1.1,g18 r13.1.1,g19 r13.1.1,g20 r13.1.1,g21 r13.1.1,g22 r13.1.1,g23 r13.1.1,g24 r13.1.1,g25 r13.1.1,g26 r13.1.1),r10.1.1,())).bind fun r25=>(some (!r25.1.1)))).bind fun c26=>
 bif c26 then some ((false,()),()) else (f21 (r13.1.1,1,())).bind fun r27=>
 (f22 ((r13.1.1.1,r13.1.1.2.1,r13.1.1.2.2.1,g3 r13.1.1,g4 r13.1.1,g5 r27.2.1,g6 r27.2.1,g7 r13.1.1,g8 r13.1.1,g9 r27.2.1,dQ r13.1.1,fF r13.1.1,gB r27.2.1,(fN r13.1.1,fE r27.2.1,jR r13.1.1),kM r13.1.1,iM r13.1.1,g18 r13.1.1,g19 r13.1.1,g20 r13.1.1,g21 r27.2.1,g22 r27.2.1,g23 r13.1.1,g24 r13.1.1,g25 r13.1.1,g26 r13.1.1),1,())).bind fun r28=>
 bif blt r28.1.1 0 then some ((false,()),()) else bif bne r28.1.1 r27.1.1 then some ((false,()),()) else (f7 (aC1,())).bind fun r31=>(f16 (aIn2,())).bind fun r32=>
 (f17 (r31.1.1.1,(r32.1.1.1,r32.1.1.2.1,r32.1.1.2.2.1,g3 r32.1.1,g4 r32.1.1),aPace3,())).bind fun r33=>
 (f18 ((r33.1.1.1,r33.1.1.2.1,r33.1.1.2.2.1,g3 r33.1.1,g4 r33.1.1,g5 r33.1.1,g6 r33.1.1,g7 r33.1.1,g8 r33.1.1,g9 r33.1.1,dQ r33.1.1,fF r33.1.1,gB r33.1.1,(fN r33.1.1,fE r33.1.1,jR r33.1.1),kM r33.1.1,iM r33.1.1,g18 r33.1.1,g19 r33.1.1,g20 r33.1.1,g21 r33.1.1,g22 r33.1.1,g23 r33.1.1,g24 r33.1.1,g25 r33.1.1,g26 r33.1.1),r10.1.1,())).bind fun r34=>
 bif !r34.1.1 then some ((false,()),())
 else (f22 ((r13.1.1.1,r13.1.1.2.1,r13.1.1.2.2.1,g3 r13.1.1,g4 r13.1.1,g5 r27.2.1,g6 r27.2.1,g7 r13.1.1,g8 r13.1.1,g9 r27.2.1,dQ r13.1.1,fF r13.1.1,gB r27.2.1,(fN r13.1.1,fE r27.2.1,jR r13.1.1),kM r13.1.1,iM r13.1.1,g18 r13.1.1,g19 r13.1.1,g20 r13.1.1,g21 r27.2.1,g22 r27.2.1,g23 r13.1.1,g24 r13.1.1,g25 r13.1.1,g26 r13.1.1),1,())).bind fun r36=>
 bif blt r36.1.1 0 then some ((false,()),()) else bif bne r36.1.1 r27.1.1 then some ((false,()),()) else some ((true,()),())
def f1004 (x:aZ×aN×Int×Unit):Option ((Bool×Unit)×(Unit)):=
 let aC1:=x.1
 let aIn2:=x.2.1
 let aPace3:=x.2.2.1
 (f5 (aC1,1048576,())).bind fun r4=>bif blt r4.1.1 0 then some ((true,()),()) else (f14 (aIn2,r4.1.1,())).bind fun r6=>bif blt r6.1.1 0 then some ((true,()),())
 else (f7 (aC1,())).bind fun r8=>(f16 (aIn2,())).bind fun r9=>(f15 (r8.1.1.1,(r9.1.1.1,r9.1.1.2.1,r9.1.1.2.2.1,g3 r9.1.1,g4 r9.1.1),aPace3,())).bind fun r10=>
 (f7 (aC1,())).bind fun r11=>(f16 (aIn2,())).bind fun r12=>(f1017 (r11.1.1.1,(r12.1.1.1,r12.1.1.2.1,r12.1.1.2.2.1,g3 r12.1.1,g4 r12.1.1),aPace3,())).bind fun r13=>
 (f18 ((r13.1.1.1,r13.1.1.2.1,r13.1.1.2.2.1,g3 r13.1.1,g4 r13.1.1,g5 r13.1.1,g6 r13.1.1,g7 r13.1.1,g8 r13.1.1,g9 r13.1.1,dQ r13.1.1,fF r13.1.1,gB r13.1.1,(fN r13.1.1,fE r13.1.1,jR r13.1.1),kM r13.1.1,iM r13.1.1,g18 r13.1.1,g19 r13.1.1,g20 r13.1.1,g21 r13.1.1,g22 r13.1.1,g23 r13.1.1,g24 r13.1.1,g25 r13.1.1,g26 r13.1.1),r10.1.1,())).bind fun r14=>
 bif !r14.1.1 then some ((false,()),()) else (f7 (aC1,())).bind fun r16=>(f10 (r11.1.1.1,r16.1.1.1,())).bind fun r17=>bif !r17.1.1 then some ((false,()),())
 else (f16 (aIn2,())).bind fun r19=>(f19 ((r12.1.1.1,r12.1.1.2.1,r12.1.1.2.2.1,g3 r12.1.1,g4 r12.1.1),(r19.1.1.1,r19.1.1.2.1,r19.1.1.2.2.1,g3 r19.1.1,g4 r19.1.1),())).bind fun r20=>
 bif !r20.1.1 then some ((false,()),()) else (f11 (r11.1.1,1,())).bind fun r22=>(f20 (r12.1.1,r22.1.1,())).bind fun r23=>
 (bK (blt r23.1.1 0) (some true) ((f18 ((r13.1.1.1,r13.1.1.2.1,r13.1.1.2.2.1,g3 r13.1.1,g4 r13.1.1,g5 r13.1.1,g6 r13.1.1,g7 r13.1.1,g8 r13.1.1,g9 r13.1.1,dQ r13.1.1,fF r13.1.1,gB r13.1.1,(fN r13.1.1,fE r13.1.1,jR r13.1.1),kM r13.1.1,iM r13.1.1,g18 r13.1.1,g19 r13.1.1,g20 r13.1.1,g21 r13.1.1,g22 r13.1.1,g23 r13.1.1,g24 r13.1.1,g25 r13.1.1,g26 r13.1.1),r10.1.1,())).bind fun r25=>(some (!r25.1.1)))).bind fun c26=>
 bif c26 then some ((false,()),()) else (f21 (r13.1.1,1,())).bind fun r27=>
 (f22 ((r13.1.1.1,r13.1.1.2.1,r13.1.1.2.2.1,g3 r13.1.1,g4 r13.1.1,g5 r27.2.1,g6 r27.2.1,g7 r13.1.1,g8 r13.1.1,g9 r27.2.1,dQ r13.1.1,fF r13.1.1,gB r27.2.1,(fN r13.1.1,fE r27.2.1,jR r13.1.1),kM r13.1.1,iM r13.1.1,g18 r13.1.1,g19 r13.1.1,g20 r13.1.1,g21 r27.2.1,g22 r27.2.1,g23 r13.1.1,g24 r13.1.1,g25 r13.1.1,g26 r13.1.1),1,())).bind fun r28=>
 bif blt r28.1.1 0 then some ((false,()),()) else bif bne r28.1.1 r27.1.1 then some ((false,()),()) else (f7 (aC1,())).bind fun r31=>(f16 (aIn2,())).bind fun r32=>
 (f1017 (r31.1.1.1,(r32.1.1.1,r32.1.1.2.1,r32.1.1.2.2.1,g3 r32.1.1,g4 r32.1.1),aPace3,())).bind fun r33=>
 (f18 ((r33.1.1.1,r33.1.1.2.1,r33.1.1.2.2.1,g3 r33.1.1,g4 r33.1.1,g5 r33.1.1,g6 r33.1.1,g7 r33.1.1,g8 r33.1.1,g9 r33.1.1,dQ r33.1.1,fF r33.1.1,gB r33.1.1,(fN r33.1.1,fE r33.1.1,jR r33.1.1),kM r33.1.1,iM r33.1.1,g18 r33.1.1,g19 r33.1.1,g20 r33.1.1,g21 r33.1.1,g22 r33.1.1,g23 r33.1.1,g24 r33.1.1,g25 r33.1.1,g26 r33.1.1),r10.1.1,())).bind fun r34=>
 bif !r34.1.1 then some ((false,()),())
 else (f22 ((r13.1.1.1,r13.1.1.2.1,r13.1.1.2.2.1,g3 r13.1.1,g4 r13.1.1,g5 r27.2.1,g6 r27.2.1,g7 r13.1.1,g8 r13.1.1,g9 r27.2.1,dQ r13.1.1,fF r13.1.1,gB r27.2.1,(fN r13.1.1,fE r27.2.1,jR r13.1.1),kM r13.1.1,iM r13.1.1,g18 r13.1.1,g19 r13.1.1,g20 r13.1.1,g21 r27.2.1,g22 r27.2.1,g23 r13.1.1,g24 r13.1.1,g25 r13.1.1,g26 r13.1.1),1,())).bind fun r36=>
 bif blt r36.1.1 0 then some ((false,()),()) else bif bne r36.1.1 r27.1.1 then some ((false,()),()) else some ((true,()),())
end
end Go.Ev.L7
