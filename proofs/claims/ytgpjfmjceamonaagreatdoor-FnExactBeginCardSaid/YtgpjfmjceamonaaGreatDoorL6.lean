/-
  Prepare: what each function computes (printed by g5.py).
-/
import Derived.Test.YtgpjfmjceamonaaGreatDoorEvO
import Derived.Test.YtgpjfmjceamonaaGreatDoorLC
import Derived.Test.YtgpjfmjceamonaaGreatDoorEv21
import Derived.Test.YtgpjfmjceamonaaGreatDoorRows
import Derived.KernelRfl
namespace Go.Ev.L6
open Go.Proofs
abbrev Y0 : Ty:=.st (.pair .bool ti)
abbrev Y1 : Ty:=.st (.pair ti (.pair ti (.pair .flt (.pair .str ti))))
abbrev Y2 : Ty:=.st (.pair ti (.pair ti (.pair ti (.pair ti ti))))
abbrev Y3 : Ty:=.st (.pair .str (.pair ti (.pair ti ti)))
abbrev Y4 : Ty:=.st (.pair .str (.pair ti (.pair ti (.pair .bool (.pair ti (.pair (.row Y0) (.pair (.row Y1) (.pair (.row Y2) (.row Y3)))))))))
abbrev Y5 : Ty:=.st (.row Y4)
abbrev Y6 : Ty:=.st (.pair ti (.pair ti (.pair ti (.pair ti (.pair ti (.pair ti ti))))))
abbrev Y7 : Ty:=.st (.row Y6)
abbrev Y8 : Ty:=.st (.pair (.row Y7) ti)
abbrev Y9 : Ty:=.st (.pair (.row .str) (.pair (.row .str) (.pair ti (.pair ti ti))))
abbrev Y10 : Ty:=.st (.pair Y1 (.pair Y1 ti))
abbrev Y11 : Ty:=.st (.pair (.row Y10) ti)
abbrev Y12 : Ty:=.st (.pair ti (.pair ti (.pair ti (.pair Y11 (.pair ti (.pair .bool (.pair ti (.pair (.row ti) Y1))))))))
abbrev Y13 : Ty:=.st (.pair ti ti)
abbrev Y14 : Ty:=.st (.pair ti (.pair Y1 (.pair ti (.row Y1))))
abbrev Y15 : Ty:=.st (.pair ti (.row Y1))
abbrev Y16 : Ty:=.st (.pair .bool (.pair ti (.pair ti (.pair ti (.row Y15)))))
abbrev Y17 : Ty:=.st (.pair ti (.pair (.row Y1) .str))
abbrev Y18 : Ty:=.st (.pair ti (.pair ti (.pair ti (.pair .bool (.pair (.row Y1) (.pair ti (.pair ti (.pair ti (.pair ti (.pair ti (.pair (.row Y14) (.pair (.row Y16) (.pair .bool (.pair .bool (.pair Y17 ti)))))))))))))))
abbrev Y19 : Ty:=.st (.pair ti (.pair Y1 (.pair (.row Y18) (.pair ti (.pair .bool (.row Y1))))))
abbrev Y20 : Ty:=.st (.pair ti (.pair ti (.pair ti (.pair ti .str))))
abbrev Y21 : Ty:=.st (.pair ti (.pair (.row Y20) (.pair (.row .str) (.pair .str (.pair .str (.pair ti ti))))))
abbrev Y22 : Ty:=.st (.pair ti (.pair ti (.pair ti (.pair ti (.pair ti (.pair (.row Y12) (.pair (.row Y13) (.pair ti (.pair ti (.pair (.row Y19) (.pair ti (.pair .bool (.pair (.row Y1) (.pair Y17 (.pair .bool (.pair ti (.pair ti (.pair ti Y21))))))))))))))))))
abbrev cQ : Ty:=.st (.pair ti (.pair ti ti))
abbrev cP : Ty:=.st (.pair .bool (.pair ti ti))
abbrev cT : Ty:=.st (.pair .bool (.pair (.row ti) (.row cP)))
abbrev Y26 : Ty:=.st (.pair ti (.pair ti (.pair ti (.pair (.row Y1) (.pair ti (.pair ti (.pair ti (.pair ti (.pair ti (.pair (.row Y14) (.pair (.row ti) (.pair (.row Y16) (.pair .bool (.pair .bool (.pair Y17 ti)))))))))))))))
abbrev Y27 : Ty:=.st (.pair ti (.pair Y1 (.pair (.row Y26) (.pair ti (.pair .bool (.row Y1))))))
abbrev Y28 : Ty:=.st (.pair .str .str)
abbrev Y29 : Ty:=.st (.pair ti (.pair ti (.row Y28)))
abbrev Y30 : Ty:=.st (.pair .bool (.pair ti (.row Y29)))
abbrev Y31 : Ty:=.st (.pair Y5 (.pair Y8 (.pair Y9 (.pair ti (.pair ti (.pair ti (.pair ti (.pair ti (.pair (.row Y12) (.pair (.row Y13) (.pair ti (.pair ti (.pair (.row Y27) (.pair ti (.pair (.row Y1) (.pair .bool (.pair Y17 (.pair .bool (.pair ti (.pair ti (.pair ti (.pair ti (.pair Y21 (.pair ti Y30))))))))))))))))))))))))
abbrev Y32 : Ty:=.st (.pair ti cT)
abbrev Y33 : Ty:=.st (.pair ti (.pair ti (.pair ti ti)))
abbrev Z0 : DT:=.st (.pair (.fl .str) (.pair (.fl ti) (.pair (.fl ti) (.pair (.fl .bool) (.pair (.fl ti) (.pair (.row 224 (.fl Y0)) (.pair (.row 128 (.fl Y1)) (.pair (.row 118 (.fl Y2)) (.row 221 (.fl Y3))))))))))
abbrev Z1 : DT:=.st (.row 76 (.fl Y6))
abbrev Z2 : DT:=.st (.pair (.fl .str) (.pair (.fl ti) (.pair (.fl ti) (.pair (.fl .bool) (.pair (.fl ti) (.pair (.row 281 (.fl Y0)) (.pair (.row 268 (.fl Y1)) (.pair (.row 284 (.fl Y2)) (.row 270 (.fl Y3))))))))))
abbrev Z3 : DT:=.st (.pair (.row 240 (.fl Y10)) (.fl ti))
abbrev Z4 : DT:=.st (.pair (.fl ti) (.pair (.fl ti) (.pair (.fl ti) (.pair Z3 (.pair (.fl ti) (.pair (.fl .bool) (.pair (.fl ti) (.pair (.row 3 (.fl ti)) (.fl Y1)))))))))
abbrev Z5 : DT:=.st (.pair (.fl ti) (.pair (.fl Y1) (.pair (.fl ti) (.row 128 (.fl Y1)))))
abbrev Z6 : DT:=.st (.pair (.fl ti) (.row 128 (.fl Y1)))
abbrev Z7 : DT:=.st (.pair (.fl .bool) (.pair (.fl ti) (.pair (.fl ti) (.pair (.fl ti) (.row 252 Z6)))))
abbrev Z8 : DT:=.st (.pair (.fl ti) (.pair (.row 128 (.fl Y1)) (.fl .str)))
abbrev Z9 : DT:=.st (.pair (.fl ti) (.pair (.fl ti) (.pair (.fl ti) (.pair (.row 128 (.fl Y1)) (.pair (.fl ti) (.pair (.fl ti) (.pair (.fl ti) (.pair (.fl ti) (.pair (.fl ti) (.pair (.row 242 Z5) (.pair (.row 3 (.fl ti)) (.pair (.row 247 Z7) (.pair (.fl .bool) (.pair (.fl .bool) (.pair Z8 (.fl ti))))))))))))))))
abbrev Z10 : DT:=.st (.pair (.fl ti) (.pair (.fl Y1) (.pair (.row 169 Z9) (.pair (.fl ti) (.pair (.fl .bool) (.row 128 (.fl Y1)))))))
abbrev Z11 : DT:=.st (.pair (.fl .bool) (.pair (.fl ti) (.pair (.fl ti) (.pair (.fl ti) (.row 254 Z6)))))
abbrev Z12 : DT:=.st (.pair (.fl ti) (.pair (.fl ti) (.pair (.fl ti) (.pair (.fl .bool) (.pair (.row 128 (.fl Y1)) (.pair (.fl ti) (.pair (.fl ti) (.pair (.fl ti) (.pair (.fl ti) (.pair (.fl ti) (.pair (.row 244 Z5) (.pair (.row 250 Z11) (.pair (.fl .bool) (.pair (.fl .bool) (.pair Z8 (.fl ti))))))))))))))))
abbrev Z13 : DT:=.st (.pair (.fl ti) (.pair (.fl Y1) (.pair (.row 173 Z12) (.pair (.fl ti) (.pair (.fl .bool) (.row 128 (.fl Y1)))))))
abbrev Z14 : DT:=.st (.pair (.fl .bool) (.pair (.row 3 (.fl ti)) (.row 278 (.fl cP))))
abbrev Z15 : DT:=.st (.pair (.fl ti) Z14)
abbrev Z16 : DT:=.st (.pair (.fl ti) (.pair (.fl ti) (.row 335 (.fl Y28))))
def bB : List (Int × List Int):=[(1,[7,0,0,0]),(2,[8,0,0,0]),(3,[0,0,0,0]),(4,[1,9,0,0]),(5,[1,2,0,0]),(6,[1,2,0,0]),(7,[1,5,0,0]),(8,[5,2,0,0]),(9,[1,10,0,0]),(10,[10,2,0,0]),(11,[1,11,0,0]),(12,[1,0,0,0]),(13,[4,2,2,0]),(14,[4,2,3,0]),(15,[1,2,2,0]),(16,[2,2,2,0]),(17,[1,14,2,0]),(18,[1,13,2,2]),(19,[12,0,0,0]),(20,[2,12,0,0]),(21,[2,12,0,0]),(22,[1,0,0,0]),(23,[6,2,0,0]),(24,[6,3,0,0]),(25,[1,3,0,0]),(26,[1,6,15,0]),(27,[1,6,0,0]),(28,[1,2,3,0]),(29,[3,0,0,0]),(30,[2,0,0,0]),(31,[12,17,0,0]),(32,[0,0,0,0]),(33,[16,0,0,0]),(34,[16,0,0,0]),(35,[2,3,0,0]),(36,[0,0,0,0]),(37,[18,0,0,0]),(38,[18,12,0,0]),(39,[18,12,0,0]),(40,[19,0,0,0]),(41,[20,12,1,0]),(42,[1,0,0,0])]
def env : Env:={ tys:=[(2,⟨ti,8⟩),(3,⟨ti,8⟩),(4,⟨.bool,1⟩),(5,⟨(.int .u8),1⟩),(9,⟨.str,16⟩),(22,⟨(.row Y4),24⟩),(24,⟨Y5,24⟩),(26,⟨(.row Y7),24⟩),(28,⟨Y8,32⟩),(30,⟨(.row Y4),24⟩),(32,⟨Y5,24⟩),(39,⟨(.row .str),24⟩),(41,⟨Y9,72⟩),(43,⟨(.row Y12),24⟩),(44,⟨(.row Y13),24⟩),(45,⟨(.row Y19),24⟩),(46,⟨(.row Y1),24⟩),(48,⟨Y17,48⟩),(49,⟨(.row Y20),24⟩),(51,⟨Y21,104⟩),(53,⟨Y22,352⟩),(55,⟨Y9,72⟩),(64,⟨cQ,24⟩),(67,⟨(.row Y0),24⟩),(68,⟨(.row Y2),24⟩),(69,⟨(.row Y3),24⟩),(71,⟨Y4,144⟩),(72,⟨(.row Y6),24⟩),(74,⟨Y7,24⟩),(76,⟨Y6,56⟩),(108,⟨(.row Y0),24⟩),(109,⟨(.row Y1),24⟩),(110,⟨(.row Y2),24⟩),(111,⟨(.row Y3),24⟩),(113,⟨Y4,144⟩),(114,⟨(.row cT),24⟩),(118,⟨Y2,40⟩),(126,⟨.flt,8⟩),(128,⟨Y1,48⟩),(137,⟨(.row Y12),24⟩),(138,⟨(.row Y27),24⟩),(140,⟨Y17,48⟩),(141,⟨(.row Y29),24⟩),(143,⟨Y30,40⟩),(145,⟨Y31,536⟩),(149,⟨(.row Y10),24⟩),(151,⟨Y11,32⟩),(152,⟨(.row ti),24⟩),(154,⟨Y12,152⟩),(156,⟨Y12,152⟩),(159,⟨Y13,16⟩),(160,⟨(.row Y26),24⟩),(162,⟨Y27,120⟩),(163,⟨(.row Y18),24⟩),(165,⟨Y19,120⟩),(166,⟨(.row Y14),24⟩),(167,⟨(.row Y16),24⟩),(169,⟨Y26,224⟩),(170,⟨(.row Y14),24⟩),(171,⟨(.row Y16),24⟩),(173,⟨Y18,208⟩),(193,⟨(.row .bool),24⟩),(196,⟨(.row cP),24⟩),(198,⟨cT,56⟩),(207,⟨(.row Y32),24⟩),(210,⟨Y32,64⟩),(221,⟨Y3,40⟩),(224,⟨Y0,16⟩),(225,⟨(.row Y32),24⟩),(229,⟨Y32,64⟩),(236,⟨(.row (.int .u8)),24⟩),(238,⟨Y20,48⟩),(240,⟨Y10,104⟩),(242,⟨Y14,88⟩),(244,⟨Y14,88⟩),(245,⟨(.row Y15),24⟩),(247,⟨Y16,56⟩),(248,⟨(.row Y15),24⟩),(250,⟨Y16,56⟩),(252,⟨Y15,32⟩),(254,⟨Y15,32⟩),(258,⟨(.row (.row .str)),24⟩),(268,⟨Y1,48⟩),(270,⟨Y3,40⟩),(278,⟨cP,24⟩),(281,⟨Y0,16⟩),(284,⟨Y2,40⟩),(289,⟨ti,8⟩),(290,⟨Y33,32⟩),(293,⟨Y33,32⟩),(330,⟨(.row Y28),24⟩),(332,⟨Y29,40⟩),(335,⟨Y28,32⟩)],els:=[(22,113),(26,74),(30,71),(39,9),(43,156),(44,159),(45,165),(46,128),(49,238),(67,224),(68,118),(69,221),(72,76),(108,281),(109,268),(110,284),(111,270),(114,198),(137,154),(138,162),(141,332),(149,240),(152,3),(160,169),(163,173),(166,242),(167,247),(170,244),(171,250),(193,4),(196,278),(207,210),(225,229),(236,5),(245,252),(248,254),(258,39),(330,335)],flds:=[(24,[(0,1,false)]),(28,[(0,1,false),(1,1,false)]),(32,[(0,1,false)]),(41,[(0,1,false),(1,1,false),(2,1,false),(3,1,false),(4,1,false)]),(48,[(0,1,false),(1,1,false),(2,1,false)]),(51,[(0,1,false),(1,1,false),(2,1,false),(3,1,false),(4,1,false),(5,1,false),(6,1,false)]),(53,[(0,1,false),(1,1,false),(2,1,false),(3,1,false),(4,1,false),(5,1,false),(6,1,false),(7,1,false),(8,1,false),(9,1,false),(10,1,false),(11,1,false),(12,1,false),(13,3,true),(16,1,false),(17,1,false),(18,1,false),(19,1,false),(20,7,true)]),(55,[(0,1,false),(1,1,false),(2,1,false),(3,1,false),(4,1,false)]),(64,[(0,1,false),(1,1,false),(2,1,false)]),(71,[(0,1,false),(1,1,false),(2,1,false),(3,1,false),(4,1,false),(5,1,false),(6,1,false),(7,1,false),(8,1,false)]),(74,[(0,1,false)]),(76,[(0,1,false),(1,1,false),(2,1,false),(3,1,false),(4,1,false),(5,1,false),(6,1,false)]),(113,[(0,1,false),(1,1,false),(2,1,false),(3,1,false),(4,1,false),(5,1,false),(6,1,false),(7,1,false),(8,1,false)]),(118,[(0,1,false),(1,1,false),(2,1,false),(3,1,false),(4,1,false)]),(128,[(0,1,false),(1,1,false),(2,1,false),(3,1,false),(4,1,false)]),(140,[(0,1,false),(1,1,false),(2,1,false)]),(143,[(0,1,false),(1,1,false),(2,1,false)]),(145,[(0,1,true),(1,2,true),(3,5,true),(8,1,false),(9,1,false),(10,1,false),(11,1,false),(12,1,false),(13,1,false),(14,1,false),(15,1,false),(16,1,false),(17,1,false),(18,1,false),(19,1,false),(20,1,false),(21,3,true),(24,1,false),(25,1,false),(26,1,false),(27,1,false),(28,1,false),(29,7,true),(36,1,false),(37,3,true)]),(151,[(0,1,false),(1,1,false)]),(154,[(0,1,false),(1,1,false),(2,1,false),(3,2,true),(5,1,false),(6,1,false),(7,1,false),(8,1,false),(9,5,true)]),(156,[(0,1,false),(1,1,false),(2,1,false),(3,2,true),(5,1,false),(6,1,false),(7,1,false),(8,1,false),(9,5,true)]),(159,[(0,1,false),(1,1,false)]),(162,[(0,1,false),(1,5,true),(6,1,false),(7,1,false),(8,1,false),(9,1,false)]),(165,[(0,1,false),(1,5,true),(6,1,false),(7,1,false),(8,1,false),(9,1,false)]),(169,[(0,1,false),(1,1,false),(2,1,false),(3,1,false),(4,1,false),(5,1,false),(6,1,false),(7,1,false),(8,1,false),(9,1,false),(10,1,false),(11,1,false),(12,1,false),(13,1,false),(14,3,true),(17,1,false)]),(173,[(0,1,false),(1,1,false),(2,1,false),(3,1,false),(4,1,false),(5,1,false),(6,1,false),(7,1,false),(8,1,false),(9,1,false),(10,1,false),(11,1,false),(12,1,false),(13,1,false),(14,3,true),(17,1,false)]),(198,[(0,1,false),(1,1,false),(2,1,false)]),(210,[(0,1,false),(1,3,true)]),(221,[(0,1,false),(1,1,false),(2,1,false),(3,1,false)]),(224,[(0,1,false),(1,1,false)]),(229,[(0,1,false),(1,3,true)]),(238,[(0,1,false),(1,1,false),(2,1,false),(3,1,false),(4,1,false)]),(240,[(0,5,true),(5,5,true),(10,1,false)]),(242,[(0,1,false),(1,5,true),(6,1,false),(7,1,false)]),(244,[(0,1,false),(1,5,true),(6,1,false),(7,1,false)]),(247,[(0,1,false),(1,1,false),(2,1,false),(3,1,false),(4,1,false)]),(250,[(0,1,false),(1,1,false),(2,1,false),(3,1,false),(4,1,false)]),(252,[(0,1,false),(1,1,false)]),(254,[(0,1,false),(1,1,false)]),(268,[(0,1,false),(1,1,false),(2,1,false),(3,1,false),(4,1,false)]),(270,[(0,1,false),(1,1,false),(2,1,false),(3,1,false)]),(278,[(0,1,false),(1,1,false),(2,1,false)]),(281,[(0,1,false),(1,1,false)]),(284,[(0,1,false),(1,1,false),(2,1,false),(3,1,false),(4,1,false)]),(332,[(0,1,false),(1,1,false),(2,1,false)]),(335,[(0,1,false),(1,1,false)])],globs:=[(1,bB)],eqs:=[64,278],maps:=[292],imaps:=[296],arrs:=[290,293],deeps:=[] }
def envD : Env:={ tys:=[(2,⟨ti,8⟩),(3,⟨ti,8⟩),(4,⟨.bool,1⟩),(5,⟨(.int .u8),1⟩),(9,⟨.str,16⟩),(22,⟨(.row Y4),24⟩),(24,⟨Y5,24⟩),(26,⟨(.row Y7),24⟩),(28,⟨Y8,32⟩),(30,⟨(.row Y4),24⟩),(32,⟨Y5,24⟩),(39,⟨(.row .str),24⟩),(41,⟨Y9,72⟩),(43,⟨(.row Y12),24⟩),(44,⟨(.row Y13),24⟩),(45,⟨(.row Y19),24⟩),(46,⟨(.row Y1),24⟩),(48,⟨Y17,48⟩),(49,⟨(.row Y20),24⟩),(51,⟨Y21,104⟩),(53,⟨Y22,352⟩),(55,⟨Y9,72⟩),(64,⟨cQ,24⟩),(67,⟨(.row Y0),24⟩),(68,⟨(.row Y2),24⟩),(69,⟨(.row Y3),24⟩),(71,⟨Y4,144⟩),(72,⟨(.row Y6),24⟩),(74,⟨Y7,24⟩),(76,⟨Y6,56⟩),(108,⟨(.row Y0),24⟩),(109,⟨(.row Y1),24⟩),(110,⟨(.row Y2),24⟩),(111,⟨(.row Y3),24⟩),(113,⟨Y4,144⟩),(114,⟨(.row cT),24⟩),(118,⟨Y2,40⟩),(126,⟨.flt,8⟩),(128,⟨Y1,48⟩),(137,⟨(.row Y12),24⟩),(138,⟨(.row Y27),24⟩),(140,⟨Y17,48⟩),(141,⟨(.row Y29),24⟩),(143,⟨Y30,40⟩),(145,⟨Y31,536⟩),(149,⟨(.row Y10),24⟩),(151,⟨Y11,32⟩),(152,⟨(.row ti),24⟩),(154,⟨Y12,152⟩),(156,⟨Y12,152⟩),(159,⟨Y13,16⟩),(160,⟨(.row Y26),24⟩),(162,⟨Y27,120⟩),(163,⟨(.row Y18),24⟩),(165,⟨Y19,120⟩),(166,⟨(.row Y14),24⟩),(167,⟨(.row Y16),24⟩),(169,⟨Y26,224⟩),(170,⟨(.row Y14),24⟩),(171,⟨(.row Y16),24⟩),(173,⟨Y18,208⟩),(193,⟨(.row .bool),24⟩),(196,⟨(.row cP),24⟩),(198,⟨cT,56⟩),(207,⟨(.row Y32),24⟩),(210,⟨Y32,64⟩),(221,⟨Y3,40⟩),(224,⟨Y0,16⟩),(225,⟨(.row Y32),24⟩),(229,⟨Y32,64⟩),(236,⟨(.row (.int .u8)),24⟩),(238,⟨Y20,48⟩),(240,⟨Y10,104⟩),(242,⟨Y14,88⟩),(244,⟨Y14,88⟩),(245,⟨(.row Y15),24⟩),(247,⟨Y16,56⟩),(248,⟨(.row Y15),24⟩),(250,⟨Y16,56⟩),(252,⟨Y15,32⟩),(254,⟨Y15,32⟩),(258,⟨(.row (.row .str)),24⟩),(268,⟨Y1,48⟩),(270,⟨Y3,40⟩),(278,⟨cP,24⟩),(281,⟨Y0,16⟩),(284,⟨Y2,40⟩),(289,⟨ti,8⟩),(290,⟨Y33,32⟩),(293,⟨Y33,32⟩),(330,⟨(.row Y28),24⟩),(332,⟨Y29,40⟩),(335,⟨Y28,32⟩)],els:=[(22,113),(26,74),(30,71),(39,9),(43,156),(44,159),(45,165),(46,128),(49,238),(67,224),(68,118),(69,221),(72,76),(108,281),(109,268),(110,284),(111,270),(114,198),(137,154),(138,162),(141,332),(149,240),(152,3),(160,169),(163,173),(166,242),(167,247),(170,244),(171,250),(193,4),(196,278),(207,210),(225,229),(236,5),(245,252),(248,254),(258,39),(330,335)],flds:=[(24,[(0,1,false)]),(28,[(0,1,false),(1,1,false)]),(32,[(0,1,false)]),(41,[(0,1,false),(1,1,false),(2,1,false),(3,1,false),(4,1,false)]),(48,[(0,1,false),(1,1,false),(2,1,false)]),(51,[(0,1,false),(1,1,false),(2,1,false),(3,1,false),(4,1,false),(5,1,false),(6,1,false)]),(53,[(0,1,false),(1,1,false),(2,1,false),(3,1,false),(4,1,false),(5,1,false),(6,1,false),(7,1,false),(8,1,false),(9,1,false),(10,1,false),(11,1,false),(12,1,false),(13,3,true),(16,1,false),(17,1,false),(18,1,false),(19,1,false),(20,7,true)]),(55,[(0,1,false),(1,1,false),(2,1,false),(3,1,false),(4,1,false)]),(64,[(0,1,false),(1,1,false),(2,1,false)]),(71,[(0,1,false),(1,1,false),(2,1,false),(3,1,false),(4,1,false),(5,1,false),(6,1,false),(7,1,false),(8,1,false)]),(74,[(0,1,false)]),(76,[(0,1,false),(1,1,false),(2,1,false),(3,1,false),(4,1,false),(5,1,false),(6,1,false)]),(113,[(0,1,false),(1,1,false),(2,1,false),(3,1,false),(4,1,false),(5,1,false),(6,1,false),(7,1,false),(8,1,false)]),(118,[(0,1,false),(1,1,false),(2,1,false),(3,1,false),(4,1,false)]),(128,[(0,1,false),(1,1,false),(2,1,false),(3,1,false),(4,1,false)]),(140,[(0,1,false),(1,1,false),(2,1,false)]),(143,[(0,1,false),(1,1,false),(2,1,false)]),(145,[(0,1,true),(1,2,true),(3,5,true),(8,1,false),(9,1,false),(10,1,false),(11,1,false),(12,1,false),(13,1,false),(14,1,false),(15,1,false),(16,1,false),(17,1,false),(18,1,false),(19,1,false),(20,1,false),(21,3,true),(24,1,false),(25,1,false),(26,1,false),(27,1,false),(28,1,false),(29,7,true),(36,1,false),(37,3,true)]),(151,[(0,1,false),(1,1,false)]),(154,[(0,1,false),(1,1,false),(2,1,false),(3,2,true),(5,1,false),(6,1,false),(7,1,false),(8,1,false),(9,5,true)]),(156,[(0,1,false),(1,1,false),(2,1,false),(3,2,true),(5,1,false),(6,1,false),(7,1,false),(8,1,false),(9,5,true)]),(159,[(0,1,false),(1,1,false)]),(162,[(0,1,false),(1,5,true),(6,1,false),(7,1,false),(8,1,false),(9,1,false)]),(165,[(0,1,false),(1,5,true),(6,1,false),(7,1,false),(8,1,false),(9,1,false)]),(169,[(0,1,false),(1,1,false),(2,1,false),(3,1,false),(4,1,false),(5,1,false),(6,1,false),(7,1,false),(8,1,false),(9,1,false),(10,1,false),(11,1,false),(12,1,false),(13,1,false),(14,3,true),(17,1,false)]),(173,[(0,1,false),(1,1,false),(2,1,false),(3,1,false),(4,1,false),(5,1,false),(6,1,false),(7,1,false),(8,1,false),(9,1,false),(10,1,false),(11,1,false),(12,1,false),(13,1,false),(14,3,true),(17,1,false)]),(198,[(0,1,false),(1,1,false),(2,1,false)]),(210,[(0,1,false),(1,3,true)]),(221,[(0,1,false),(1,1,false),(2,1,false),(3,1,false)]),(224,[(0,1,false),(1,1,false)]),(229,[(0,1,false),(1,3,true)]),(238,[(0,1,false),(1,1,false),(2,1,false),(3,1,false),(4,1,false)]),(240,[(0,5,true),(5,5,true),(10,1,false)]),(242,[(0,1,false),(1,5,true),(6,1,false),(7,1,false)]),(244,[(0,1,false),(1,5,true),(6,1,false),(7,1,false)]),(247,[(0,1,false),(1,1,false),(2,1,false),(3,1,false),(4,1,false)]),(250,[(0,1,false),(1,1,false),(2,1,false),(3,1,false),(4,1,false)]),(252,[(0,1,false),(1,1,false)]),(254,[(0,1,false),(1,1,false)]),(268,[(0,1,false),(1,1,false),(2,1,false),(3,1,false),(4,1,false)]),(270,[(0,1,false),(1,1,false),(2,1,false),(3,1,false)]),(278,[(0,1,false),(1,1,false),(2,1,false)]),(281,[(0,1,false),(1,1,false)]),(284,[(0,1,false),(1,1,false),(2,1,false),(3,1,false),(4,1,false)]),(332,[(0,1,false),(1,1,false),(2,1,false)]),(335,[(0,1,false),(1,1,false)])],globs:=[(1,bB)],eqs:=[64,278],maps:=[292],imaps:=[296],arrs:=[290,293],deeps:=[(39,(.row 9 (.fl .str))),(71,Z0),(74,Z1),(113,Z2),(154,Z4),(156,Z4),(162,Z10),(165,Z13),(169,Z9),(173,Z12),(198,Z14),(210,Z15),(229,Z15),(242,Z5),(244,Z5),(247,Z7),(250,Z11),(252,Z6),(254,Z6),(332,Z16)] }
noncomputable section
def f129 (x : Nat × Unit) : Option ((Bool × Unit) × Unit) := some ((blt (wr (x.1 : Int)) (0 : Int), ()), ())
def ps129 : List VS := [.val .flt]
def rs129 : List VS := [.val .bool]
abbrev S0 := Bool × Int
abbrev S1 := Int × Int × Nat × ByteArray × Int
abbrev S2 := Int × Int × Int × Int × Int
abbrev S3 := ByteArray × Int × Int × Int
abbrev S4 := Bool × Int × Int
abbrev S6 := Bool × (List Int) × List S4
abbrev S5 := Int × S6
abbrev S7 := Int × Int × Int × Int × Int × Int × Int
abbrev S8 := List S7
abbrev S9 := ByteArray × Int × Int × Bool × Int × (List S0) × (List S1) × (List S2) × List S3
abbrev P0 : S9 := ((⟨#[]⟩ : ByteArray), (0 : Int), (0 : Int), false, (0 : Int), ([] : List S0), ([] : List S1), ([] : List S2), ([] : List S3))
abbrev jI : S1 := ((0 : Int), (0 : Int), (0 : Nat), (⟨#[]⟩ : ByteArray), (0 : Int))
abbrev aT : S2 := ((0 : Int), (0 : Int), (0 : Int), (0 : Int), (0 : Int))
abbrev Dz3 : S3 := ((⟨#[]⟩ : ByteArray), (0 : Int), (0 : Int), (0 : Int))
abbrev F0 : S5 := ((0 : Int), false, ([] : List Int), ([] : List S4))
abbrev fI : S6 := (false, ([] : List Int), ([] : List S4))
abbrev G0 : S4 := (false, (0 : Int), (0 : Int))
abbrev U0 : S0 := (false, (0 : Int))
def upd0 (e : S9) (v : ByteArray) : S9 := (v, e.2)
def put0 (xs : List S9) (i : Int) (v : ByteArray) : List S9 := xs.set i.toNat (upd0 (xs.getD i.toNat ((⟨#[]⟩ : ByteArray), (0 : Int), (0 : Int), false, (0 : Int), ([] : List S0), ([] : List S1), ([] : List S2), ([] : List S3))) v)
def upd1 (e : S9) (v : Int) : S9 := (e.1, v, e.2.2)
def put1 (xs : List S9) (i : Int) (v : Int) : List S9 := xs.set i.toNat (upd1 (xs.getD i.toNat ((⟨#[]⟩ : ByteArray), (0 : Int), (0 : Int), false, (0 : Int), ([] : List S0), ([] : List S1), ([] : List S2), ([] : List S3))) v)
def upd2 (e : S9) (v : Int) : S9 := (e.1, e.2.1, v, e.2.2.2)
def put2 (xs : List S9) (i : Int) (v : Int) : List S9 := xs.set i.toNat (upd2 (xs.getD i.toNat ((⟨#[]⟩ : ByteArray), (0 : Int), (0 : Int), false, (0 : Int), ([] : List S0), ([] : List S1), ([] : List S2), ([] : List S3))) v)
def upd3 (e : S9) (v : Bool) : S9 := (e.1, e.2.1, e.2.2.1, v, e.2.2.2.2)
def put3 (xs : List S9) (i : Int) (v : Bool) : List S9 := xs.set i.toNat (upd3 (xs.getD i.toNat ((⟨#[]⟩ : ByteArray), (0 : Int), (0 : Int), false, (0 : Int), ([] : List S0), ([] : List S1), ([] : List S2), ([] : List S3))) v)
def upd4 (e : S9) (v : Int) : S9 := (e.1, e.2.1, e.2.2.1, e.2.2.2.1, v, e.2.2.2.2.2)
def put4 (xs : List S9) (i : Int) (v : Int) : List S9 := xs.set i.toNat (upd4 (xs.getD i.toNat ((⟨#[]⟩ : ByteArray), (0 : Int), (0 : Int), false, (0 : Int), ([] : List S0), ([] : List S1), ([] : List S2), ([] : List S3))) v)
def upd5 (e : S9) (v : (List S3)) : S9 := (e.1, e.2.1, e.2.2.1, e.2.2.2.1, e.2.2.2.2.1, e.2.2.2.2.2.1, e.2.2.2.2.2.2.1, e.2.2.2.2.2.2.2.1, v)
def put5 (xs : List S9) (i : Int) (v : (List S3)) : List S9 := xs.set i.toNat (upd5 (xs.getD i.toNat ((⟨#[]⟩ : ByteArray), (0 : Int), (0 : Int), false, (0 : Int), ([] : List S0), ([] : List S1), ([] : List S2), ([] : List S3))) v)
def upd6 (e : S9) (v : (List S2)) : S9 := (e.1, e.2.1, e.2.2.1, e.2.2.2.1, e.2.2.2.2.1, e.2.2.2.2.2.1, e.2.2.2.2.2.2.1, v, e.2.2.2.2.2.2.2.2)
def put6 (xs : List S9) (i : Int) (v : (List S2)) : List S9 := xs.set i.toNat (upd6 (xs.getD i.toNat ((⟨#[]⟩ : ByteArray), (0 : Int), (0 : Int), false, (0 : Int), ([] : List S0), ([] : List S1), ([] : List S2), ([] : List S3))) v)
def upd7 (e : S9) (v : (List S1)) : S9 := (e.1, e.2.1, e.2.2.1, e.2.2.2.1, e.2.2.2.2.1, e.2.2.2.2.2.1, v, e.2.2.2.2.2.2.2)
def put7 (xs : List S9) (i : Int) (v : (List S1)) : List S9 := xs.set i.toNat (upd7 (xs.getD i.toNat ((⟨#[]⟩ : ByteArray), (0 : Int), (0 : Int), false, (0 : Int), ([] : List S0), ([] : List S1), ([] : List S2), ([] : List S3))) v)
def upd8 (e : S9) (v : (List S0)) : S9 := (e.1, e.2.1, e.2.2.1, e.2.2.2.1, e.2.2.2.2.1, v, e.2.2.2.2.2.2)
def put8 (xs : List S9) (i : Int) (v : (List S0)) : List S9 := xs.set i.toNat (upd8 (xs.getD i.toNat ((⟨#[]⟩ : ByteArray), (0 : Int), (0 : Int), false, (0 : Int), ([] : List S0), ([] : List S1), ([] : List S2), ([] : List S3))) v)
def f106 (x:List S0×Int×Unit):Option ((Int×Unit)×(Unit)):=
 let v4:=wr (x.2.1 - (x.1.length : Int))
 bif blt v4 0 then some ((-1,()),()) else some ((v4,()),())
def f151 (x:S1×Int×Unit):Option ((Int×Unit)×(Unit)):=
 let v4:=wr (x.2.1 - (x.1.2.2.2.1.size : Int))
 bif blt v4 0 then some ((-1,()),()) else some ((v4,()),())
def f107_20:Lp (List S1×Int×Int×Unit) (((Int×Unit)⊕(Int×Unit))):=fun x=>
 let a6:=x.1
 let left7:=x.2.1
 let i8:=x.2.2.1
 bif blt i8 a6.length then bif aE i8 a6.length then (f151 (a6.getD i8.toNat jI,left7,())).bind fun r11=>bif blt r11.1.1 0 then some (.inr (.inr (-1,())))
 else some (.inl (a6,r11.1.1,wr (i8+1),())) else none else some (.inr (.inl (left7,())))
def f107 (x:List S1×Int×Unit):Option ((Int×Unit)×(Unit)):=
 let a1:=x.1
 let v4:=wr (x.2.1 - (a1.length : Int))
 bif blt v4 0 then some ((-1,()),()) else (aA f107_20 (a1,v4,0,())).bind fun y18=>match y18 with
 | .inl z14=>some ((z14.1,()),())
 | .inr z16=>some ((z16.1,()),())
def f108 (x:List S2×Int×Unit):Option ((Int×Unit)×(Unit)):=
 let v4:=wr (x.2.1 - (x.1.length : Int))
 bif blt v4 0 then some ((-1,()),()) else some ((v4,()),())
def f152 (x:S3×Int×Unit):Option ((Int×Unit)×(Unit)):=
 let v4:=wr (x.2.1 - (x.1.1.size : Int))
 bif blt v4 0 then some ((-1,()),()) else some ((v4,()),())
def f109_20:Lp (List S3×Int×Int×Unit) (((Int×Unit)⊕(Int×Unit))):=fun x=>
 let a6:=x.1
 let left7:=x.2.1
 let i8:=x.2.2.1
 bif blt i8 a6.length then bif aE i8 a6.length then (f152 (a6.getD i8.toNat Dz3,left7,())).bind fun r11=>bif blt r11.1.1 0 then some (.inr (.inr (-1,())))
 else some (.inl (a6,r11.1.1,wr (i8+1),())) else none else some (.inr (.inl (left7,())))
def f109 (x:List S3×Int×Unit):Option ((Int×Unit)×(Unit)):=
 let a1:=x.1
 let v4:=wr (x.2.1 - (a1.length : Int))
 bif blt v4 0 then some ((-1,()),()) else (aA f109_20 (a1,v4,0,())).bind fun y18=>match y18 with
 | .inl z14=>some ((z14.1,()),())
 | .inr z16=>some ((z16.1,()),())
def f61 (x:S9×Int×Unit):Option ((Int×Unit)×(Unit)):=
 let a1:=x.1
 let v4:=wr (x.2.1 - (a1.1.size : Int))
 bif blt v4 0 then some ((-1,()),()) else (f106 (a1.2.2.2.2.2.1,v4,())).bind fun r6=>bif blt r6.1.1 0 then some ((-1,()),()) else (f107 (a1.2.2.2.2.2.2.1,r6.1.1,())).bind fun r8=>
 bif blt r8.1.1 0 then some ((-1,()),()) else (f108 (a1.2.2.2.2.2.2.2.1,r8.1.1,())).bind fun r10=>bif blt r10.1.1 0 then some ((-1,()),())
 else (f109 (a1.2.2.2.2.2.2.2.2,r10.1.1,())).bind fun r12=>bif blt r12.1.1 0 then some ((-1,()),()) else some ((r12.1.1,()),())
def f23_20:Lp (List S9×Int×Int×Unit) (((Int×Unit)⊕(Int×Unit))):=fun x=>
 let a6:=x.1
 let left7:=x.2.1
 let i8:=x.2.2.1
 bif blt i8 a6.length then bif aE i8 a6.length then (f61 (a6.getD i8.toNat P0,left7,())).bind fun r11=>
 bif blt r11.1.1 0 then some (.inr (.inr (-1,()))) else some (.inl (a6,r11.1.1,wr (i8+1),())) else none else some (.inr (.inl (left7,())))
def f23 (x:List S9×Int×Unit):Option ((Int×Unit)×(Unit)):=
 let a1:=x.1
 let v4:=wr (x.2.1 - (a1.length : Int))
 bif blt v4 0 then some ((-1,()),()) else (aA f23_20 (a1,v4,0,())).bind fun y18=>match y18 with
 | .inl z14=>some ((z14.1,()),())
 | .inr z16=>some ((z16.1,()),())
abbrev aN := List S9
def f5 (x:aN×Int×Unit):Option ((Int×Unit)×(Unit)):=
 (f23 (x.1,x.2.1,())).bind fun r3=>bif blt r3.1.1 0 then some ((-1,()),()) else some ((r3.1.1,()),())
abbrev aZ := Int × Int × Int
def f112 (x:Int×Int×Int×Unit):Option ((aZ×Unit)×(Unit)):=
 some (((x.1,x.2.1,x.2.2.1),()),())
def f157 (x:Int×Int×Int×Unit):Option ((Bool×Unit)×(Unit)):=
 let x1:=x.1
 some (((ble x.2.1 x1)&&(ble x1 x.2.2.1),()),())
def f153 (x:aN×Int×Unit):Option ((Bool×Unit)×(Unit)):=
 let c1:=x.1
 let p2:=x.2.1
 bif aE p2 c1.length then let v3:=(c1.getD p2.toNat P0).2.2.2.2.1
 (bK (ble (c1.getD p2.toNat P0).1.size 40) ((f157 ((c1.getD p2.toNat P0).2.1,0,100000,())).bind fun r9=>(some r9.1.1)) (some false)).bind fun c10=>
 (bK c10 ((f157 ((c1.getD p2.toNat P0).2.2.2.2.1,0,250,())).bind fun r11=>(some r11.1.1)) (some false)).bind fun c12=>
 (bK c12 ((f157 ((c1.getD p2.toNat P0).2.2.1,0,bif (c1.getD p2.toNat P0).2.2.2.1 then wr (v3 - 1) else v3,())).bind fun r13=>(some r13.1.1)) (some false)).bind fun c14=>
 some ((((c14&&(ble (c1.getD p2.toNat P0).2.2.2.2.2.1.length 250))&&(ble (c1.getD p2.toNat P0).2.2.2.2.2.2.1.length 500))&&((blt 0 p2)||((beq (c1.getD p2.toNat P0).2.2.1 0)&&(beq (c1.getD p2.toNat P0).2.2.2.2.2.1.length 0))),()),())
 else none
def f188 (x:S1×Bool×Bool×Bool×Bool×Unit):Option ((Bool×Unit)×(Unit)):=
 let v1:=x.1
 some (((((x.2.1||(beq v1.2.1 0))&&(x.2.2.1||(dX v1.2.2.1 (0 : Nat) == some .eq)))&&(x.2.2.2.1||(jL v1.2.2.2.1 (⟨#[]⟩ : ByteArray))))&&(x.2.2.2.2.1||(beq v1.2.2.2.2 0)),()),())
def f183 (x:S1×Unit):Option ((Bool×Unit)×(Unit)):=
 let v1:=x.1
 bif beq v1.1 0 then (f188 (v1,false,false,false,false,())).bind fun r3=>some ((r3.1.1,()),()) else bif beq v1.1 1 then (f188 (v1,true,false,false,false,())).bind fun r5=>
 some ((r5.1.1&&((beq v1.2.1 0)||(beq v1.2.1 1)),()),()) else bif beq v1.1 2 then (f188 (v1,true,false,false,false,())).bind fun r8=>some ((r8.1.1,()),())
 else bif beq v1.1 3 then (f188 (v1,false,true,false,false,())).bind fun r10=>some ((r10.1.1,()),()) else bif beq v1.1 4 then (f188 (v1,false,false,true,false,())).bind fun r12=>
 some ((r12.1.1&&(ble v1.2.2.2.1.size 4000),()),()) else bif (beq v1.1 5)||((beq v1.1 6)||(beq v1.1 7)) then (f188 (v1,false,false,false,true,())).bind fun r16=>
 some ((r16.1.1&&(ble 0 v1.2.2.2.2),()),()) else bif beq v1.1 8 then (f188 (v1,true,false,false,false,())).bind fun r19=>some (((r19.1.1&&(ble 0 v1.2.1))&&(blt v1.2.1 15),()),())
 else some ((false,()),())
def f154 (x:S1×Unit):Option ((Bool×Unit)×(Unit)):=
 let v1:=x.1
 (f183 (v1,())).bind fun r2=>bif (((!r2.1.1)||(beq v1.1 5))||(beq v1.1 6))||(beq v1.1 7) then some ((false,()),())
 else bif bne v1.1 3 then (bK (dX v1.2.2.1 (0 : Nat) == some .eq) ((FloatKind.f64.format.div (4607182418800017408 : Nat) v1.2.2.1).bind fun v9=>(some (dX v9 (0 : Nat) == some .gt))) (some false)).bind fun c10=>
 some ((c10,()),()) else some ((dX v1.2.2.1 v1.2.2.1 == some .eq,()),())
def f155 (x:S9×Int×Unit):Option ((Bool×Unit)×(Unit)):=
 let f1:=x.1
 let i2:=x.2.1
 bif aE i2 f1.2.2.2.2.2.2.2.2.length then (bK (blt i2 500) ((f157 (((f1.2.2.2.2.2.2.2.2.getD i2.toNat Dz3).1.size : Int),1,40,())).bind fun r4=>(some r4.1.1)) (some false)).bind fun c5=>
 (bK c5 ((f157 ((f1.2.2.2.2.2.2.2.2.getD i2.toNat Dz3).2.1,0,wr (f1.2.2.2.2.1 - 1),())).bind fun r6=>(some r6.1.1)) (some false)).bind fun c7=>
 some ((((c7&&(ble 0 (f1.2.2.2.2.2.2.2.2.getD i2.toNat Dz3).2.2.1))&&(ble (f1.2.2.2.2.2.2.2.2.getD i2.toNat Dz3).2.2.1 (f1.2.2.2.2.2.2.2.2.getD i2.toNat Dz3).2.2.2))&&(ble (f1.2.2.2.2.2.2.2.2.getD i2.toNat Dz3).2.2.2 f1.2.2.2.2.2.2.2.1.length),()),())
 else none
def f159 (x:Int×Unit):Option ((List Int×Unit)×(Unit)):=
 let op1:=x.1
 bif beq op1 1 then some (([(11 : Int),0,0,(0 : Int)],()),()) else bif beq op1 2 then some (([(12 : Int),0,0,(0 : Int)],()),())
 else bif (beq op1 3)||((beq op1 32)||(beq op1 36)) then some (([(0 : Int),0,0,(0 : Int)],()),()) else bif beq op1 4 then some (([(1 : Int),7,0,(0 : Int)],()),())
 else bif (beq op1 5)||(beq op1 6) then some (([(1 : Int),2,0,(0 : Int)],()),()) else bif beq op1 7 then some (([(1 : Int),5,0,(0 : Int)],()),())
 else bif beq op1 8 then some (([(5 : Int),2,0,(0 : Int)],()),()) else bif beq op1 9 then some (([(1 : Int),8,0,(0 : Int)],()),())
 else bif beq op1 10 then some (([(8 : Int),2,0,(0 : Int)],()),()) else bif beq op1 11 then some (([(1 : Int),9,0,(0 : Int)],()),())
 else bif (beq op1 12)||(beq op1 22) then some (([(1 : Int),0,0,(0 : Int)],()),()) else bif beq op1 13 then some (([(4 : Int),2,2,(0 : Int)],()),())
 else bif beq op1 14 then some (([(4 : Int),2,3,(0 : Int)],()),()) else bif beq op1 15 then some (([(1 : Int),2,2,(0 : Int)],()),())
 else bif beq op1 16 then some (([(2 : Int),2,2,(0 : Int)],()),()) else bif beq op1 17 then some (([(1 : Int),15,2,(0 : Int)],()),())
 else bif beq op1 18 then some (([(1 : Int),16,2,(2 : Int)],()),()) else bif beq op1 19 then some (([(10 : Int),0,0,(0 : Int)],()),())
 else bif (beq op1 20)||(beq op1 21) then some (([(2 : Int),10,0,(0 : Int)],()),()) else bif beq op1 23 then some (([(6 : Int),2,0,(0 : Int)],()),())
 else bif beq op1 24 then some (([(6 : Int),3,0,(0 : Int)],()),()) else bif beq op1 25 then some (([(1 : Int),3,0,(0 : Int)],()),())
 else bif beq op1 26 then some (([(1 : Int),6,17,(0 : Int)],()),()) else bif beq op1 27 then some (([(1 : Int),6,0,(0 : Int)],()),())
 else bif beq op1 28 then some (([(1 : Int),2,3,(0 : Int)],()),()) else bif beq op1 29 then some (([(3 : Int),0,0,(0 : Int)],()),())
 else bif beq op1 30 then some (([(2 : Int),0,0,(0 : Int)],()),()) else bif beq op1 31 then some (([(10 : Int),14,0,(0 : Int)],()),())
 else bif (beq op1 33)||(beq op1 34) then some (([(13 : Int),0,0,(0 : Int)],()),()) else bif beq op1 35 then some (([(2 : Int),3,0,(0 : Int)],()),())
 else bif beq op1 37 then some (([(18 : Int),0,0,(0 : Int)],()),()) else bif (beq op1 38)||(beq op1 39) then some (([(18 : Int),10,0,(0 : Int)],()),())
 else bif beq op1 40 then some (([(19 : Int),0,0,(0 : Int)],()),()) else bif beq op1 41 then some (([(20 : Int),10,1,(0 : Int)],()),())
 else bif beq op1 42 then some (([(21 : Int),0,0,(0 : Int)],()),()) else some ((([] : List Int),()),())
def f160 (x:S2×Unit):Option ((List Int×Unit)×(Unit)):=
 let n1:=x.1
 some (([n1.2.1,n1.2.2.1,n1.2.2.2.1,n1.2.2.2.2],()),())
def f184 (x:aN×Int×Int×Int×Unit):Option ((Bool×Unit)×(Unit)):=
 let c1:=x.1
 let p2:=x.2.1
 let role3:=x.2.2.1
 let x4:=x.2.2.2.1
 bif aE p2 c1.length then bif beq role3 0 then some ((beq x4 0,()),())
 else bif (beq role3 1)||((beq role3 4)||((beq role3 5)||((beq role3 6)||(beq role3 21)))) then (f157 (x4,0,wr ((c1.getD p2.toNat P0).2.2.2.2.1 - 1),())).bind fun r11=>
 some ((r11.1.1,()),())
 else bif (beq role3 2)||(beq role3 3) then (f157 (x4,wr (0 - (c1.getD p2.toNat P0).2.2.2.2.1),wr ((c1.getD p2.toNat P0).2.2.2.2.1 - 1),())).bind fun r18=>
 some ((r18.1.1,()),())
 else bif beq role3 7 then (f157 (x4,0,wr (((c1.getD p2.toNat P0).2.2.2.2.2.2.1.length : Int) - 1),())).bind fun r23=>
 some ((r23.1.1,()),())
 else bif beq role3 8 then (f157 (x4,0,wr (((c1.getD p2.toNat P0).2.2.2.2.2.1.length : Int) - 1),())).bind fun r28=>
 some ((r28.1.1,()),()) else bif beq role3 9 then (f157 (x4,0,wr ((c1.length : Int) - 1),())).bind fun r32=>some ((r32.1.1,()),())
 else bif beq role3 10 then (f157 (x4,0,wr (((c1.getD p2.toNat P0).2.2.2.2.2.2.2.1.length : Int) - 1),())).bind fun r37=>
 some ((r37.1.1,()),()) else bif beq role3 11 then (f157 (x4,1,100000,())).bind fun r39=>some ((r39.1.1,()),()) else bif beq role3 12 then (f157 (x4,0,100000,())).bind fun r41=>
 some ((r41.1.1,()),())
 else bif beq role3 13 then (f157 (x4,0,(c1.getD p2.toNat P0).2.2.2.2.1,())).bind fun r44=>
 some ((r44.1.1,()),())
 else bif beq role3 14 then (f157 (x4,0,wr ((c1.getD p2.toNat P0).2.2.2.2.1 - 2),())).bind fun r48=>
 some ((r48.1.1,()),()) else bif beq role3 15 then (f157 (x4,19,22,())).bind fun r50=>some ((r50.1.1,()),()) else bif beq role3 16 then (f157 (x4,1,18,())).bind fun r52=>
 some ((r52.1.1,()),()) else bif beq role3 17 then (f157 (x4,0,250,())).bind fun r54=>some ((r54.1.1,()),())
 else bif beq role3 18 then (f157 (x4,0,wr ((c1.getD p2.toNat P0).2.2.2.2.1 - 3),())).bind fun r58=>
 some ((r58.1.1,()),())
 else (f157 (x4,0,wr ((c1.getD p2.toNat P0).2.2.2.2.1 - 2),())).bind fun r61=>
 some ((r61.1.1,()),()) else none
def f156_24:Lp (Int×Int×(aN×Unit)×(S2×Unit)×List Int×List Int×Int×Int×Unit) (((Int×Int×(aN×Unit)×(S2×Unit)×Unit)⊕(Bool×Unit))):=fun x=>
 let p11:=x.1
 let i12:=x.2.1
 let roles13:=x.2.2.2.2.1
 let v14:=x.2.2.2.2.2.1
 let v15:=x.2.2.2.2.2.2.1
 let v16:=x.2.2.2.2.2.2.2.1
 bif blt v16 v15 then bif aE v16 v14.length then bif aE v16 roles13.length then (f184 (x.2.2.1.1,p11,roles13.getD v16.toNat (0 : Int),v14.getD v16.toNat (0 : Int),())).bind fun r20=>
 bif !r20.1.1 then some (.inr (.inr (false,()))) else some (.inl (p11,i12,(x.2.2.1.1,()),(x.2.2.2.1.1,()),roles13,v14,v15,wr (v16+1),())) else none else none
 else some (.inr (.inl (p11,i12,(x.2.2.1.1,()),(x.2.2.2.1.1,()),())))
def f156 (x:aN×Int×Int×Unit):Option ((Bool×Unit)×(Unit)):=
 let c1:=x.1
 let p2:=x.2.1
 let i3:=x.2.2.1
 bif aE p2 c1.length then let v4:=(c1.getD p2.toNat P0).2.2.2.2.2.2.2.1
 bif aE i3 v4.length then (f159 ((v4.getD i3.toNat aT).1,())).bind fun r6=>bif beq r6.1.1.length 0 then some ((false,()),())
 else (f160 (v4.getD i3.toNat aT,())).bind fun r9=>
 (aA f156_24 (p2,i3,(c1,()),(v4.getD i3.toNat aT,()),r6.1.1,r9.1.1,(r9.1.1.length : Int),0,())).bind fun y36=>match y36 with
 | .inl z23=>let p24:=z23.1
 bif aE p24 z23.2.2.1.1.length then some (((((!(beq z23.2.1 (wr (((z23.2.2.1.1.getD p24.toNat P0).2.2.2.2.2.2.2.1.length : Int) - 1))))||(beq z23.2.2.2.1.1.1 19))||(beq z23.2.2.2.1.1.1 29))||(beq z23.2.2.2.1.1.1 30),()),())
 else none
 | .inr z34=>some ((z34.1,()),()) else none else none
def f110_12:Lp ((aN×Unit)×(aZ×Unit)×Int×List S9×Int×Int×Unit) (((aN×Unit)×(aZ×Unit)×Int×Unit)):=fun x=>
 let r3:=x.2.2.1
 let v4:=x.2.2.2.1
 let v5:=x.2.2.2.2.1
 let v6:=x.2.2.2.2.2.1
 bif blt v6 v5 then bif aE v6 v4.length then some (.inl ((x.1.1,()),(x.2.1.1,()),wr (r3+((v4.getD v6.toNat P0).2.2.2.2.2.2.2.1.length : Int)),v4,v5,wr (v6+1),()))
 else none else some (.inr ((x.1.1,()),(x.2.1.1,()),r3,()))
def f110_40:Lp ((aN×Unit)×(aZ×Unit)×Int×Int×Unit) ((((aN×Unit)×(aZ×Unit)×Unit)⊕((aZ×Unit)×Unit))):=fun x=>
 let v20:=x.2.2.1
 let v21:=x.2.2.2.1
 bif blt v21 v20 then (f153 (x.1.1,v21,())).bind fun r23=>bif !r23.1.1 then (f112 (2,v21,0,())).bind fun r25=>some (.inr (.inr ((r25.1.1,()),())))
 else some (.inl ((x.1.1,()),(x.2.1.1,()),v20,wr (v21+1),())) else some (.inr (.inl ((x.1.1,()),(x.2.1.1,()),())))
def f110_76:Lp ((aN×Unit)×(aZ×Unit)×Int×List S9×Int×Int×List S1×Int×Int×Unit) ((((aN×Unit)×(aZ×Unit)×List S9×Int×Int×Unit)⊕((aZ×Unit)×Unit))):=fun x=>
 let v35:=x.2.2.1
 let v36:=x.2.2.2.1
 let v37:=x.2.2.2.2.1
 let v38:=x.2.2.2.2.2.1
 let v39:=x.2.2.2.2.2.2.1
 let v40:=x.2.2.2.2.2.2.2.1
 let v41:=x.2.2.2.2.2.2.2.2.1
 bif blt v41 v40 then bif aE v41 v39.length then (f154 (v39.getD v41.toNat jI,())).bind fun r43=>bif !r43.1.1 then (f112 (3,v35,v41,())).bind fun r45=>
 some (.inr (.inr ((r45.1.1,()),()))) else some (.inl ((x.1.1,()),(x.2.1.1,()),v35,v36,v37,v38,v39,v40,wr (v41+1),())) else none
 else some (.inr (.inl ((x.1.1,()),(x.2.1.1,()),v36,v37,v38,())))
def f110_64:Lp ((aN×Unit)×(aZ×Unit)×List S9×Int×Int×Unit) ((((aN×Unit)×(aZ×Unit)×Unit)⊕((aZ×Unit)×Unit))):=fun x=>
 let v29:=x.2.2.1
 let v30:=x.2.2.2.1
 let v31:=x.2.2.2.2.1
 bif blt v31 v30 then bif aE v31 v29.length then let v33:=(v29.getD v31.toNat P0).2.2.2.2.2.2.1
 (aA f110_76 ((x.1.1,()),(x.2.1.1,()),v31,v29,v30,v31,v33,(v33.length : Int),0,())).bind fun y53=>match y53 with
 | .inl z47=>some (.inl ((z47.1.1,()),(z47.2.1.1,()),z47.2.2.1,z47.2.2.2.1,wr (z47.2.2.2.2.1+1),()))
 | .inr z52=>some (.inr (.inr ((z52.1.1,()),()))) else none else some (.inr (.inl ((x.1.1,()),(x.2.1.1,()),())))
def f110_116:Lp ((aN×Unit)×(aZ×Unit)×Int×(S9×Unit)×List S9×Int×Int×Int×Int×Unit) ((((aN×Unit)×(aZ×Unit)×List S9×Int×Int×Unit)⊕((aZ×Unit)×Unit))):=fun x=>
 let v62:=x.2.2.1
 let v63:=x.2.2.2.2.1
 let v64:=x.2.2.2.2.2.1
 let v65:=x.2.2.2.2.2.2.1
 let v66:=x.2.2.2.2.2.2.2.1
 let v67:=x.2.2.2.2.2.2.2.2.1
 bif blt v67 v66 then (f155 (x.2.2.2.1.1,v67,())).bind fun r69=>bif !r69.1.1 then (f112 (4,v62,v67,())).bind fun r71=>some (.inr (.inr ((r71.1.1,()),())))
 else some (.inl ((x.1.1,()),(x.2.1.1,()),v62,(x.2.2.2.1.1,()),v63,v64,v65,v66,wr (v67+1),())) else some (.inr (.inl ((x.1.1,()),(x.2.1.1,()),v63,v64,v65,())))
def f110_104:Lp ((aN×Unit)×(aZ×Unit)×List S9×Int×Int×Unit) ((((aN×Unit)×(aZ×Unit)×Unit)⊕((aZ×Unit)×Unit))):=fun x=>
 let v56:=x.2.2.1
 let v57:=x.2.2.2.1
 let v58:=x.2.2.2.2.1
 bif blt v58 v57 then bif aE v58 v56.length then (aA f110_116 ((x.1.1,()),(x.2.1.1,()),v58,(v56.getD v58.toNat P0,()),v56,v57,v58,((v56.getD v58.toNat P0).2.2.2.2.2.2.2.2.length : Int),0,())).bind fun y79=>match y79 with
 | .inl z73=>some (.inl ((z73.1.1,()),(z73.2.1.1,()),z73.2.2.1,z73.2.2.2.1,wr (z73.2.2.2.2.1+1),()))
 | .inr z78=>some (.inr (.inr ((z78.1.1,()),()))) else none else some (.inr (.inl ((x.1.1,()),(x.2.1.1,()),())))
def f110_164:Lp ((aN×Unit)×(aZ×Unit)×Int×List S9×Int×Int×Int×Int×Unit) ((((aN×Unit)×(aZ×Unit)×List S9×Int×Int×Unit)⊕((aZ×Unit)×Unit))):=fun x=>
 let v92:=x.2.2.1
 let v93:=x.2.2.2.1
 let v94:=x.2.2.2.2.1
 let v95:=x.2.2.2.2.2.1
 let v96:=x.2.2.2.2.2.2.1
 let v97:=x.2.2.2.2.2.2.2.1
 bif blt v97 v96 then (f156 (x.1.1,v92,v97,())).bind fun r99=>bif !r99.1.1 then (f112 (5,v92,v97,())).bind fun r101=>some (.inr (.inr ((r101.1.1,()),())))
 else some (.inl ((x.1.1,()),(x.2.1.1,()),v92,v93,v94,v95,v96,wr (v97+1),())) else some (.inr (.inl ((x.1.1,()),(x.2.1.1,()),v93,v94,v95,())))
def f110_144:Lp ((aN×Unit)×(aZ×Unit)×List S9×Int×Int×Unit) ((((aZ×Unit)×Unit)⊕((aZ×Unit)×Unit))):=fun x=>
 let v82:=x.2.2.1
 let v83:=x.2.2.2.1
 let v84:=x.2.2.2.2.1
 bif blt v84 v83 then bif aE v84 v82.length then bif beq (v82.getD v84.toNat P0).2.2.2.2.2.2.2.1.length 0 then (f112 (5,v84,0,())).bind fun r89=>
 some (.inr (.inr ((r89.1.1,()),())))
 else (aA f110_164 ((x.1.1,()),(x.2.1.1,()),v84,v82,v83,v84,((v82.getD v84.toNat P0).2.2.2.2.2.2.2.1.length : Int),0,())).bind fun y109=>match y109 with
 | .inl z103=>some (.inl ((z103.1.1,()),(z103.2.1.1,()),z103.2.2.1,z103.2.2.2.1,wr (z103.2.2.2.2.1+1),()))
 | .inr z108=>some (.inr (.inr ((z108.1.1,()),()))) else none else some (.inr (.inl ((x.2.1.1,()),())))
def f110 (x:aN×Unit):Option ((aZ×Unit)×(Unit)):=
 let t1:=x.1
 (aA f110_12 ((t1,()),((0,0,0),()),0,t1,(t1.length : Int),0,())).bind fun z12=>
 bif ((beq z12.1.1.length 0)||(blt 200 z12.1.1.length))||(blt 6000 z12.2.2.1) then (f112 (1,0,0,())).bind fun r18=>some ((r18.1.1,()),())
 else (aA f110_40 ((z12.1.1,()),(z12.2.1.1,()),(z12.1.1.length : Int),0,())).bind fun y118=>match y118 with
 | .inl z27=>(
 (aA f110_64 ((z27.1.1,()),(z27.2.1.1,()),z27.1.1,(z27.1.1.length : Int),0,())).bind fun y116=>match y116 with
 | .inl z54=>(
 (aA f110_104 ((z54.1.1,()),(z54.2.1.1,()),z54.1.1,(z54.1.1.length : Int),0,())).bind fun y114=>match y114 with
 | .inl z80=>(
 (aA f110_144 ((z80.1.1,()),(z80.2.1.1,()),z80.1.1,(z80.1.1.length : Int),0,())).bind fun y112=>match y112 with
 | .inl _=>some (((0,0,0),()),())
 | .inr z111=>some ((z111.1.1,()),()))
 | .inr z113=>some ((z113.1.1,()),()))
 | .inr z115=>some ((z115.1.1,()),()))
 | .inr z117=>some ((z117.1.1,()),())
def f111_8:Lp (Int×(aN×Unit)×List S0×Int×Int×Unit) (((Unit)⊕(Bool×Unit))):=fun x=>
 let p6:=x.1
 let v7:=x.2.2.1
 let v8:=x.2.2.2.1
 let v9:=x.2.2.2.2.1
 bif blt v9 v8 then bif aE v9 v7.length then bif (v7.getD v9.toNat U0).1 then bif aE p6 x.2.1.1.length then (f157 ((v7.getD v9.toNat U0).2,0,wr ((x.2.1.1.getD p6.toNat P0).2.2.2.2.1 - 1),())).bind fun r15=>
 bif !r15.1.1 then some (.inr (.inr (false,())))
 else bif !(v7.getD v9.toNat U0).1 then bif aE p6 x.2.1.1.length then (f157 ((v7.getD v9.toNat U0).2,0,wr (((x.2.1.1.getD p6.toNat P0).2.2.2.2.2.1.length : Int) - 1),())).bind fun r23=>
 bif !r23.1.1 then some (.inr (.inr (false,()))) else some (.inl (p6,(x.2.1.1,()),v7,v8,wr (v9+1),())) else none else some (.inl (p6,(x.2.1.1,()),v7,v8,wr (v9+1),())) else none
 else bif !(v7.getD v9.toNat U0).1 then bif aE p6 x.2.1.1.length then (f157 ((v7.getD v9.toNat U0).2,0,wr (((x.2.1.1.getD p6.toNat P0).2.2.2.2.2.1.length : Int) - 1),())).bind fun r33=>
 bif !r33.1.1 then some (.inr (.inr (false,()))) else some (.inl (p6,(x.2.1.1,()),v7,v8,wr (v9+1),())) else none else some (.inl (p6,(x.2.1.1,()),v7,v8,wr (v9+1),())) else none
 else some (.inr (.inl ()))
def f111 (x:aN×Int×Int×Unit):Option ((Bool×Unit)×(Unit)):=
 let c1:=x.1
 let g3:=x.2.2.1
 bif aE g3 c1.length then let v4:=(c1.getD g3.toNat P0).2.2.2.2.2.1
 (aA f111_8 (x.2.1,(c1,()),v4,(v4.length : Int),0,())).bind fun y40=>match y40 with
 | .inl _=>some ((true,()),())
 | .inr z38=>some ((z38.1,()),()) else none
def f62_36:Lp ((aN×Unit)×(aZ×Unit)×List Bool×Int×List S9×Int×Int×List S2×Int×Int×Unit) ((((aN×Unit)×(aZ×Unit)×List Bool×List S9×Int×Int×Unit)⊕((aZ×Unit)×Unit))):=fun x=>
 let made14:=x.2.2.1
 let p15:=x.2.2.2.1
 let v16:=x.2.2.2.2.1
 let v17:=x.2.2.2.2.2.1
 let v18:=x.2.2.2.2.2.2.1
 let v19:=x.2.2.2.2.2.2.2.1
 let v20:=x.2.2.2.2.2.2.2.2.1
 let v21:=x.2.2.2.2.2.2.2.2.2.1
 bif blt v21 v20 then bif aE v21 v19.length then bif bne (v19.getD v21.toNat aT).1 11 then some (.inl ((x.1.1,()),(x.2.1.1,()),made14,p15,v16,v17,v18,v19,v20,wr (v21+1),()))
 else (bK (ble (v19.getD v21.toNat aT).2.2.1 p15) (some true) (bif aE (v19.getD v21.toNat aT).2.2.1 made14.length then some (made14.getD (v19.getD v21.toNat aT).2.2.1.toNat false) else none)).bind fun c28=>
 (bK c28 (some true) ((f111 (x.1.1,p15,(v19.getD v21.toNat aT).2.2.1,())).bind fun r29=>(some (!r29.1.1)))).bind fun c30=>bif c30 then (f112 (6,p15,v21,())).bind fun r31=>
 some (.inr (.inr ((r31.1.1,()),()))) else let v32:=(v19.getD v21.toNat aT).2.2.1
 bif aE v32 made14.length then some (.inl ((x.1.1,()),(x.2.1.1,()),made14.set v32.toNat true,p15,v16,v17,v18,v19,v20,wr (v21+1),())) else none else none
 else some (.inr (.inl ((x.1.1,()),(x.2.1.1,()),made14,v16,v17,v18,())))
def f62_24:Lp ((aN×Unit)×(aZ×Unit)×List Bool×List S9×Int×Int×Unit) ((((aN×Unit)×(aZ×Unit)×List Bool×Unit)⊕((aZ×Unit)×Unit))):=fun x=>
 let made7:=x.2.2.1
 let v8:=x.2.2.2.1
 let v9:=x.2.2.2.2.1
 let v10:=x.2.2.2.2.2.1
 bif blt v10 v9 then bif aE v10 v8.length then let v12:=(v8.getD v10.toNat P0).2.2.2.2.2.2.2.1
 (aA f62_36 ((x.1.1,()),(x.2.1.1,()),made7,v10,v8,v9,v10,v12,(v12.length : Int),0,())).bind fun y42=>match y42 with
 | .inl z35=>some (.inl ((z35.1.1,()),(z35.2.1.1,()),z35.2.2.1,z35.2.2.2.1,z35.2.2.2.2.1,wr (z35.2.2.2.2.2.1+1),()))
 | .inr z41=>some (.inr (.inr ((z41.1.1,()),()))) else none else some (.inr (.inl ((x.1.1,()),(x.2.1.1,()),made7,())))
def f62_72:Lp ((aN×Unit)×(aZ×Unit)×List Bool×Int×Unit) ((((aZ×Unit)×Unit)⊕((aZ×Unit)×Unit))):=fun x=>
 let made45:=x.2.2.1
 let p46:=x.2.2.2.1
 bif blt p46 x.1.1.length then bif aE p46 made45.length then bif !(made45.getD p46.toNat false) then (f112 (7,p46,0,())).bind fun r51=>some (.inr (.inr ((r51.1.1,()),())))
 else some (.inl ((x.1.1,()),(x.2.1.1,()),made45,wr (p46+1),())) else none else some (.inr (.inl ((x.2.1.1,()),())))
def f62 (x:aN×Unit):Option ((aZ×Unit)×(Unit)):=
 let c1:=x.1
 (f110 (c1,())).bind fun r2=>bif bne r2.1.1.1 0 then some ((r2.1.1,()),()) else let v4:=(c1.length : Int)
 bif inE v4 (281474976710656 : Nat) then (aA f62_24 ((c1,()),((0,0,0),()),List.replicate v4.toNat false,c1,(c1.length : Int),0,())).bind fun y57=>match y57 with
 | .inl z43=>(
 (aA f62_72 ((z43.1.1,()),(z43.2.1.1,()),z43.2.2.1,1,())).bind fun y55=>match y55 with
 | .inl _=>some (((0,0,0),()),())
 | .inr z54=>some ((z54.1.1,()),()))
 | .inr z56=>some ((z56.1.1,()),()) else none
def f158 (x:S9×Int×Unit):Option ((List Int×Unit)×(Unit)):=
 let f1:=x.1
 let at2:=x.2.1
 bif aE at2 f1.2.2.2.2.2.2.2.1.length then let v3:=(f1.2.2.2.2.2.2.2.1.getD at2.toNat aT).1
 bif (beq v3 1)||((beq v3 3)||((beq v3 28)||((beq v3 29)||(beq v3 30)))) then some ((([] : List Int),()),())
 else bif beq v3 18 then bif beq (f1.2.2.2.2.2.2.2.1.getD at2.toNat aT).2.2.1 12 then some ((([] : List Int),()),()) else let v9:=(wr (at2+1))
 bif cN (([] : List Int).length+([v9]).length) 17592186044416 then some ((([] : List Int)++([v9]),()),()) else none
 else bif beq v3 19 then let v13:=(f1.2.2.2.2.2.2.2.1.getD at2.toNat aT).2.1
 bif cN (([] : List Int).length+([v13]).length) 17592186044416 then some ((([] : List Int)++([v13]),()),()) else none
 else bif beq v3 41 then let v17:=(f1.2.2.2.2.2.2.2.1.getD at2.toNat aT).2.2.1
 bif cN (([] : List Int).length+([v17]).length) 17592186044416 then some ((([] : List Int)++([v17]),()),()) else none
 else bif (beq v3 20)||((beq v3 21)||((beq v3 38)||(beq v3 39))) then let v22:=(f1.2.2.2.2.2.2.2.1.getD at2.toNat aT).2.2.1
 bif cN (([] : List Int).length+([v22]).length) 17592186044416 then let row24:=(([] : List Int)++([v22]))
 let v25:=wr (at2+1)
 bif cN (row24.length+([v25]).length) 17592186044416 then some ((row24++([v25]),()),()) else none else none
 else bif beq v3 31 then let v29:=(f1.2.2.2.2.2.2.2.1.getD at2.toNat aT).2.1
 bif cN (([] : List Int).length+([v29]).length) 17592186044416 then let row31:=(([] : List Int)++([v29]))
 let v32:=wr (at2+1)
 bif cN (row31.length+([v32]).length) 17592186044416 then some ((row31++([v32]),()),()) else none else none else let v35:=(wr (at2+1))
 bif cN (([] : List Int).length+([v35]).length) 17592186044416 then some ((([] : List Int)++([v35]),()),()) else none else none
def f113_48:Lp (Int×(S9×Unit)×List Bool×List Int×Int×List Int×Int×Int×Unit) ((Int×(S9×Unit)×List Bool×List Int×Int×Unit)):=fun x=>
 let at19:=x.1
 let seen20:=x.2.2.1
 let list21:=x.2.2.2.1
 let i22:=x.2.2.2.2.1
 let v23:=x.2.2.2.2.2.1
 let v24:=x.2.2.2.2.2.2.1
 let v25:=x.2.2.2.2.2.2.2.1
 bif blt v25 v24 then bif aE v25 v23.length then let v27:=(v23.getD v25.toNat (0 : Int))
 bif cN (list21.length+([v27]).length) 17592186044416 then some (.inl (at19,(x.2.1.1,()),seen20,list21++([v27]),i22,v23,v24,wr (v25+1),())) else none else none
 else some (.inr (at19,(x.2.1.1,()),seen20,list21,i22,()))
def f113_16:Lp (Int×(S9×Unit)×List Bool×List Int×Int×Unit) (((Unit)⊕(Bool×Unit))):=fun x=>
 let at6:=x.1
 let seen7:=x.2.2.1
 let list8:=x.2.2.2.1
 let i9:=x.2.2.2.2.1
 bif blt i9 list8.length then bif aE i9 list8.length then let v12:=(list8.getD i9.toNat (0 : Int))
 bif beq v12 at6 then some (.inr (.inr (true,()))) else bif aE v12 seen7.length then bif !(seen7.getD v12.toNat false) then bif aE v12 seen7.length then (f158 (x.2.1.1,v12,())).bind fun r17=>
 (aA f113_48 (at6,(x.2.1.1,()),seen7.set v12.toNat true,list8,i9,r17.1.1,(r17.1.1.length : Int),0,())).bind fun z31=>
 some (.inl (z31.1,(z31.2.1.1,()),z31.2.2.1,z31.2.2.2.1,wr (z31.2.2.2.2.1+1),())) else none else some (.inl (at6,(x.2.1.1,()),seen7,list8,wr (i9+1),())) else none else none
 else some (.inr (.inl ()))
def f113 (x:S9×Int×Unit):Option ((Bool×Unit)×(Unit)):=
 let f1:=x.1
 let at2:=x.2.1
 let v3:=(f1.2.2.2.2.2.2.2.1.length : Int)
 bif inE v3 (281474976710656 : Nat) then (f158 (f1,at2,())).bind fun r5=>(aA f113_16 (at2,(f1,()),List.replicate v3.toNat false,r5.1.1,0,())).bind fun y41=>match y41 with
 | .inl _=>some ((false,()),())
 | .inr z39=>some ((z39.1,()),()) else none
def f114_12:Lp (List Int×List Int×Int×Int×Unit) (List Int×Unit):=fun x=>
 let out3:=x.1
 let v4:=x.2.1
 let v5:=x.2.2.1
 let v6:=x.2.2.2.1
 bif blt v6 v5 then bif aE v6 v4.length then let v8:=(v4.getD v6.toNat (0 : Int))
 bif cN (out3.length+([v8]).length) 17592186044416 then some (.inl (out3++([v8]),v4,v5,wr (v6+1),())) else none else none else some (.inr (out3,()))
def f114 (x:List Int×Unit):Option ((List Int×Unit)×(Unit)):=
 let a1:=x.1
 (aA f114_12 (([] : List Int),a1,(a1.length : Int),0,())).bind fun z12=>some ((z12.1,()),())
def f161 (x:Int×Unit):Option ((Int×Bool×Unit)×(Unit)):=
 let role1:=x.1
 bif beq role1 2 then some ((1,true,()),()) else bif beq role1 3 then some ((3,true,()),())
 else bif (beq role1 4)||((beq role1 18)||((beq role1 19)||(beq role1 20))) then some ((1,false,()),()) else bif beq role1 5 then some ((2,false,()),())
 else bif beq role1 6 then some ((3,false,()),()) else some ((0,false,()),())
def f115_64:Lp (aN×Int×S2×List Int×(aN×Unit)×(S2×Unit)×List Int×List Int×List Int×Int×Int×List Int×Int×Int×Int×Int×Unit) (((aN×Int×S2×List Int×(aN×Unit)×(S2×Unit)×List Int×List Int×List Int×Int×Int×List Int×Int×Int×Unit)⊕(aN×Int×S2×List Int×List Int×Bool×Unit))):=fun x=>
 let t30:=x.1
 let o31:=x.2.1
 let A32:=x.2.2.1
 let r33:=x.2.2.2.1
 let v34:=x.2.2.2.2.2.2.1
 let v35:=x.2.2.2.2.2.2.2.1
 let v36:=x.2.2.2.2.2.2.2.2.1
 let v37:=x.2.2.2.2.2.2.2.2.2.1
 let v38:=x.2.2.2.2.2.2.2.2.2.2.1
 let v39:=x.2.2.2.2.2.2.2.2.2.2.2.1
 let v40:=x.2.2.2.2.2.2.2.2.2.2.2.2.1
 let v41:=x.2.2.2.2.2.2.2.2.2.2.2.2.2.1
 let v42:=x.2.2.2.2.2.2.2.2.2.2.2.2.2.2.1
 let v43:=x.2.2.2.2.2.2.2.2.2.2.2.2.2.2.2.1
 bif blt v43 v42 then bif aE v43 v35.length then bif beq (v35.getD v43.toNat (0 : Int)) v38 then some (.inr (.inr (t30,o31,A32,r33,([] : List Int),false,())))
 else some (.inl (t30,o31,A32,r33,(x.2.2.2.2.1.1,()),(x.2.2.2.2.2.1.1,()),v34,v35,v36,v37,v38,v39,v40,v41,v42,wr (v43+1),())) else none
 else some (.inr (.inl (t30,o31,A32,r33,(x.2.2.2.2.1.1,()),(x.2.2.2.2.2.1.1,()),v34,v35,v36,v37,v38,v39,v40,v41,())))
def f115_124:Lp (aN×Int×S2×List Int×(aN×Unit)×(S2×Unit)×List Int×List Int×List Int×Int×Int×Int×Int×List Int×Int×Int×Unit) (((aN×Int×S2×List Int×(aN×Unit)×(S2×Unit)×List Int×List Int×List Int×Int×Int×List Int×Int×Int×Unit)⊕(aN×Int×S2×List Int×List Int×Bool×Unit))):=fun x=>
 let t66:=x.1
 let o67:=x.2.1
 let A68:=x.2.2.1
 let r69:=x.2.2.2.1
 let v70:=x.2.2.2.2.2.2.1
 let v71:=x.2.2.2.2.2.2.2.1
 let v72:=x.2.2.2.2.2.2.2.2.1
 let v73:=x.2.2.2.2.2.2.2.2.2.1
 let v74:=x.2.2.2.2.2.2.2.2.2.2.1
 let v75:=x.2.2.2.2.2.2.2.2.2.2.2.1
 let v76:=x.2.2.2.2.2.2.2.2.2.2.2.2.1
 let v77:=x.2.2.2.2.2.2.2.2.2.2.2.2.2.1
 let v78:=x.2.2.2.2.2.2.2.2.2.2.2.2.2.2.1
 let v79:=x.2.2.2.2.2.2.2.2.2.2.2.2.2.2.2.1
 bif ble v76 v75 then let v81:=(wr (v74+v76))
 bif aE v81 r69.length then bif bne (r69.getD v81.toNat (0 : Int)) 1 then some (.inr (.inr (t66,o67,A68,r69,([] : List Int),false,())))
 else some (.inl (t66,o67,A68,r69,(x.2.2.2.2.1.1,()),(x.2.2.2.2.2.1.1,()),v70,v71,v72,v73,v74,v75,wr (v76+1),v77,v78,v79,())) else none
 else some (.inr (.inl (t66,o67,A68,r69,(x.2.2.2.2.1.1,()),(x.2.2.2.2.2.1.1,()),v70,v71,v72,v73,v74,v77,v78,v79,())))
def f115_20:Lp (aN×Int×S2×List Int×(aN×Unit)×(S2×Unit)×List Int×List Int×List Int×List Int×Int×Int×Unit) (((aN×Int×S2×List Int×(aN×Unit)×(S2×Unit)×List Int×Unit)⊕(aN×Int×S2×List Int×List Int×Bool×Unit))):=fun x=>
 let t8:=x.1
 let o9:=x.2.1
 let A10:=x.2.2.1
 let r11:=x.2.2.2.1
 let v12:=x.2.2.2.2.2.2.1
 let v13:=x.2.2.2.2.2.2.2.1
 let v14:=x.2.2.2.2.2.2.2.2.1
 let v15:=x.2.2.2.2.2.2.2.2.2.1
 let v16:=x.2.2.2.2.2.2.2.2.2.2.1
 let v17:=x.2.2.2.2.2.2.2.2.2.2.2.1
 bif blt v17 v16 then bif aE v17 v15.length then let v19:=(v15.getD v17.toNat (0 : Int))
 bif aE v17 v14.length then (f161 (v14.getD v17.toNat (0 : Int),())).bind fun r21=>
 bif beq r21.1.1 0 then some (.inl (t8,o9,A10,r11,(x.2.2.2.2.1.1,()),(x.2.2.2.2.2.1.1,()),v12,v13,v14,v15,v16,wr (v17+1),()))
 else let v25:=(bif r21.1.2.1&&(blt v19 0) then wr ((-1 : Int) - v19) else v19)
 bif aE v25 r11.length then bif bne (r11.getD v25.toNat (0 : Int)) r21.1.1 then some (.inr (.inr (t8,o9,A10,r11,([] : List Int),false,())))
 else bif r21.1.2.1&&(blt v19 0) then (aA f115_64 (t8,o9,A10,r11,(x.2.2.2.2.1.1,()),(x.2.2.2.2.2.1.1,()),v12,v13,v14,v17,v25,v15,v16,v17,(v13.length : Int),0,())).bind fun y155=>match y155 with
 | .inl z48=>(
 let t49:=z48.1
 let o50:=z48.2.1
 let A51:=z48.2.2.1
 let r52:=z48.2.2.2.1
 let v53:=z48.2.2.2.2.2.2.1
 let v54:=z48.2.2.2.2.2.2.2.1
 let v55:=z48.2.2.2.2.2.2.2.2.1
 let v56:=z48.2.2.2.2.2.2.2.2.2.1
 let v57:=z48.2.2.2.2.2.2.2.2.2.2.1
 let v58:=z48.2.2.2.2.2.2.2.2.2.2.2.1
 let v59:=z48.2.2.2.2.2.2.2.2.2.2.2.2.1
 let v60:=z48.2.2.2.2.2.2.2.2.2.2.2.2.2.1
 bif aE v57 r52.length then let row61:=(r52.set v57.toNat (0 : Int))
 bif cN (v53.length+([v57]).length) 17592186044416 then let row63:=(v53++([v57]))
 bif aE v56 v55.length then bif beq (v55.getD v56.toNat (0 : Int)) 18 then (aA f115_124 (t49,o50,A51,row61,(z48.2.2.2.2.1.1,()),(z48.2.2.2.2.2.1.1,()),row63,v54,v55,v56,v57,2,1,v58,v59,v60,())).bind fun y114=>match y114 with
 | .inl z85=>let t86:=z85.1
 let o87:=z85.2.1
 let A88:=z85.2.2.1
 let r89:=z85.2.2.2.1
 let v90:=z85.2.2.2.2.2.2.1
 let v91:=z85.2.2.2.2.2.2.2.1
 let v92:=z85.2.2.2.2.2.2.2.2.1
 let v93:=z85.2.2.2.2.2.2.2.2.2.1
 let v94:=z85.2.2.2.2.2.2.2.2.2.2.1
 let v95:=z85.2.2.2.2.2.2.2.2.2.2.2.1
 let v96:=z85.2.2.2.2.2.2.2.2.2.2.2.2.1
 let v97:=z85.2.2.2.2.2.2.2.2.2.2.2.2.2.1
 bif aE v93 v92.length then bif beq (v92.getD v93.toNat (0 : Int)) 19 then let v100:=(wr (v94+1))
 bif aE v100 r89.length then bif bne (r89.getD v100.toNat (0 : Int)) 0 then some (.inr (.inr (t86,o87,A88,r89,([] : List Int),false,())))
 else bif cN (v90.length+([v94]).length) 17592186044416 then some (.inl (t86,o87,A88,r89,(z85.2.2.2.2.1.1,()),(z85.2.2.2.2.2.1.1,()),v90++([v94]),v91,v92,v95,v96,wr (v97+1),()))
 else none else none else some (.inl (t86,o87,A88,r89,(z85.2.2.2.2.1.1,()),(z85.2.2.2.2.2.1.1,()),v90,v91,v92,v95,v96,wr (v97+1),())) else none
 | .inr z107=>some (.inr (.inr (z107.1,z107.2.1,z107.2.2.1,z107.2.2.2.1,z107.2.2.2.2.1,z107.2.2.2.2.2.1,())))
 else bif aE v56 v55.length then (aA f115_124 (t49,o50,A51,row61,(z48.2.2.2.2.1.1,()),(z48.2.2.2.2.2.1.1,()),row63,v54,v55,v56,v57,bif beq (v55.getD v56.toNat (0 : Int)) 20 then (1 : Int) else (0 : Int),1,v58,v59,v60,())).bind fun y147=>match y147 with
 | .inl z118=>let t119:=z118.1
 let o120:=z118.2.1
 let A121:=z118.2.2.1
 let r122:=z118.2.2.2.1
 let v123:=z118.2.2.2.2.2.2.1
 let v124:=z118.2.2.2.2.2.2.2.1
 let v125:=z118.2.2.2.2.2.2.2.2.1
 let v126:=z118.2.2.2.2.2.2.2.2.2.1
 let v127:=z118.2.2.2.2.2.2.2.2.2.2.1
 let v128:=z118.2.2.2.2.2.2.2.2.2.2.2.1
 let v129:=z118.2.2.2.2.2.2.2.2.2.2.2.2.1
 let v130:=z118.2.2.2.2.2.2.2.2.2.2.2.2.2.1
 bif aE v126 v125.length then bif beq (v125.getD v126.toNat (0 : Int)) 19 then let v133:=(wr (v127+1))
 bif aE v133 r122.length then bif bne (r122.getD v133.toNat (0 : Int)) 0 then some (.inr (.inr (t119,o120,A121,r122,([] : List Int),false,())))
 else bif cN (v123.length+([v127]).length) 17592186044416 then some (.inl (t119,o120,A121,r122,(z118.2.2.2.2.1.1,()),(z118.2.2.2.2.2.1.1,()),v123++([v127]),v124,v125,v128,v129,wr (v130+1),()))
 else none else none else some (.inl (t119,o120,A121,r122,(z118.2.2.2.2.1.1,()),(z118.2.2.2.2.2.1.1,()),v123,v124,v125,v128,v129,wr (v130+1),())) else none
 | .inr z140=>some (.inr (.inr (z140.1,z140.2.1,z140.2.2.1,z140.2.2.2.1,z140.2.2.2.2.1,z140.2.2.2.2.2.1,()))) else none else none else none else none)
 | .inr z148=>some (.inr (.inr (z148.1,z148.2.1,z148.2.2.1,z148.2.2.2.1,z148.2.2.2.2.1,z148.2.2.2.2.2.1,())))
 else bif !r21.1.2.1 then bif cN (v13.length+([v25]).length) 17592186044416 then let row158:=(v13++([v25]))
 bif aE v17 v14.length then bif beq (v14.getD v17.toNat (0 : Int)) 18 then (aA f115_124 (t8,o9,A10,r11,(x.2.2.2.2.1.1,()),(x.2.2.2.2.2.1.1,()),v12,row158,v14,v17,v25,2,1,v15,v16,v17,())).bind fun y190=>match y190 with
 | .inl z161=>let t162:=z161.1
 let o163:=z161.2.1
 let A164:=z161.2.2.1
 let r165:=z161.2.2.2.1
 let v166:=z161.2.2.2.2.2.2.1
 let v167:=z161.2.2.2.2.2.2.2.1
 let v168:=z161.2.2.2.2.2.2.2.2.1
 let v169:=z161.2.2.2.2.2.2.2.2.2.1
 let v170:=z161.2.2.2.2.2.2.2.2.2.2.1
 let v171:=z161.2.2.2.2.2.2.2.2.2.2.2.1
 let v172:=z161.2.2.2.2.2.2.2.2.2.2.2.2.1
 let v173:=z161.2.2.2.2.2.2.2.2.2.2.2.2.2.1
 bif aE v169 v168.length then bif beq (v168.getD v169.toNat (0 : Int)) 19 then let v176:=(wr (v170+1))
 bif aE v176 r165.length then bif bne (r165.getD v176.toNat (0 : Int)) 0 then some (.inr (.inr (t162,o163,A164,r165,([] : List Int),false,())))
 else bif cN (v166.length+([v170]).length) 17592186044416 then some (.inl (t162,o163,A164,r165,(z161.2.2.2.2.1.1,()),(z161.2.2.2.2.2.1.1,()),v166++([v170]),v167,v168,v171,v172,wr (v173+1),()))
 else none else none else some (.inl (t162,o163,A164,r165,(z161.2.2.2.2.1.1,()),(z161.2.2.2.2.2.1.1,()),v166,v167,v168,v171,v172,wr (v173+1),())) else none
 | .inr z183=>some (.inr (.inr (z183.1,z183.2.1,z183.2.2.1,z183.2.2.2.1,z183.2.2.2.2.1,z183.2.2.2.2.2.1,())))
 else bif aE v17 v14.length then (aA f115_124 (t8,o9,A10,r11,(x.2.2.2.2.1.1,()),(x.2.2.2.2.2.1.1,()),v12,row158,v14,v17,v25,bif beq (v14.getD v17.toNat (0 : Int)) 20 then (1 : Int) else (0 : Int),1,v15,v16,v17,())).bind fun y223=>match y223 with
 | .inl z194=>let t195:=z194.1
 let o196:=z194.2.1
 let A197:=z194.2.2.1
 let r198:=z194.2.2.2.1
 let v199:=z194.2.2.2.2.2.2.1
 let v200:=z194.2.2.2.2.2.2.2.1
 let v201:=z194.2.2.2.2.2.2.2.2.1
 let v202:=z194.2.2.2.2.2.2.2.2.2.1
 let v203:=z194.2.2.2.2.2.2.2.2.2.2.1
 let v204:=z194.2.2.2.2.2.2.2.2.2.2.2.1
 let v205:=z194.2.2.2.2.2.2.2.2.2.2.2.2.1
 let v206:=z194.2.2.2.2.2.2.2.2.2.2.2.2.2.1
 bif aE v202 v201.length then bif beq (v201.getD v202.toNat (0 : Int)) 19 then let v209:=(wr (v203+1))
 bif aE v209 r198.length then bif bne (r198.getD v209.toNat (0 : Int)) 0 then some (.inr (.inr (t195,o196,A197,r198,([] : List Int),false,())))
 else bif cN (v199.length+([v203]).length) 17592186044416 then some (.inl (t195,o196,A197,r198,(z194.2.2.2.2.1.1,()),(z194.2.2.2.2.2.1.1,()),v199++([v203]),v200,v201,v204,v205,wr (v206+1),()))
 else none else none else some (.inl (t195,o196,A197,r198,(z194.2.2.2.2.1.1,()),(z194.2.2.2.2.2.1.1,()),v199,v200,v201,v204,v205,wr (v206+1),())) else none
 | .inr z216=>some (.inr (.inr (z216.1,z216.2.1,z216.2.2.1,z216.2.2.2.1,z216.2.2.2.2.1,z216.2.2.2.2.2.1,()))) else none else none else none
 else bif aE v17 v14.length then bif beq (v14.getD v17.toNat (0 : Int)) 18 then (aA f115_124 (t8,o9,A10,r11,(x.2.2.2.2.1.1,()),(x.2.2.2.2.2.1.1,()),v12,v13,v14,v17,v25,2,1,v15,v16,v17,())).bind fun y255=>match y255 with
 | .inl z226=>let t227:=z226.1
 let o228:=z226.2.1
 let A229:=z226.2.2.1
 let r230:=z226.2.2.2.1
 let v231:=z226.2.2.2.2.2.2.1
 let v232:=z226.2.2.2.2.2.2.2.1
 let v233:=z226.2.2.2.2.2.2.2.2.1
 let v234:=z226.2.2.2.2.2.2.2.2.2.1
 let v235:=z226.2.2.2.2.2.2.2.2.2.2.1
 let v236:=z226.2.2.2.2.2.2.2.2.2.2.2.1
 let v237:=z226.2.2.2.2.2.2.2.2.2.2.2.2.1
 let v238:=z226.2.2.2.2.2.2.2.2.2.2.2.2.2.1
 bif aE v234 v233.length then bif beq (v233.getD v234.toNat (0 : Int)) 19 then let v241:=(wr (v235+1))
 bif aE v241 r230.length then bif bne (r230.getD v241.toNat (0 : Int)) 0 then some (.inr (.inr (t227,o228,A229,r230,([] : List Int),false,())))
 else bif cN (v231.length+([v235]).length) 17592186044416 then some (.inl (t227,o228,A229,r230,(z226.2.2.2.2.1.1,()),(z226.2.2.2.2.2.1.1,()),v231++([v235]),v232,v233,v236,v237,wr (v238+1),()))
 else none else none else some (.inl (t227,o228,A229,r230,(z226.2.2.2.2.1.1,()),(z226.2.2.2.2.2.1.1,()),v231,v232,v233,v236,v237,wr (v238+1),())) else none
 | .inr z248=>some (.inr (.inr (z248.1,z248.2.1,z248.2.2.1,z248.2.2.2.1,z248.2.2.2.2.1,z248.2.2.2.2.2.1,())))
 else bif aE v17 v14.length then (aA f115_124 (t8,o9,A10,r11,(x.2.2.2.2.1.1,()),(x.2.2.2.2.2.1.1,()),v12,v13,v14,v17,v25,bif beq (v14.getD v17.toNat (0 : Int)) 20 then (1 : Int) else (0 : Int),1,v15,v16,v17,())).bind fun y288=>match y288 with
 | .inl z259=>let t260:=z259.1
 let o261:=z259.2.1
 let A262:=z259.2.2.1
 let r263:=z259.2.2.2.1
 let v264:=z259.2.2.2.2.2.2.1
 let v265:=z259.2.2.2.2.2.2.2.1
 let v266:=z259.2.2.2.2.2.2.2.2.1
 let v267:=z259.2.2.2.2.2.2.2.2.2.1
 let v268:=z259.2.2.2.2.2.2.2.2.2.2.1
 let v269:=z259.2.2.2.2.2.2.2.2.2.2.2.1
 let v270:=z259.2.2.2.2.2.2.2.2.2.2.2.2.1
 let v271:=z259.2.2.2.2.2.2.2.2.2.2.2.2.2.1
 bif aE v267 v266.length then bif beq (v266.getD v267.toNat (0 : Int)) 19 then let v274:=(wr (v268+1))
 bif aE v274 r263.length then bif bne (r263.getD v274.toNat (0 : Int)) 0 then some (.inr (.inr (t260,o261,A262,r263,([] : List Int),false,())))
 else bif cN (v264.length+([v268]).length) 17592186044416 then some (.inl (t260,o261,A262,r263,(z259.2.2.2.2.1.1,()),(z259.2.2.2.2.2.1.1,()),v264++([v268]),v265,v266,v269,v270,wr (v271+1),()))
 else none else none else some (.inl (t260,o261,A262,r263,(z259.2.2.2.2.1.1,()),(z259.2.2.2.2.2.1.1,()),v264,v265,v266,v269,v270,wr (v271+1),())) else none
 | .inr z281=>some (.inr (.inr (z281.1,z281.2.1,z281.2.2.1,z281.2.2.2.1,z281.2.2.2.2.1,z281.2.2.2.2.2.1,()))) else none else none else none else none else none
 else some (.inr (.inl (t8,o9,A10,r11,(x.2.2.2.2.1.1,()),(x.2.2.2.2.2.1.1,()),v12,())))
def f115_168:Lp (aN×Int×S2×List Int×List Int×List S0×Int×Int×Unit) (((aN×Int×S2×List Int×List Int×Unit)⊕(aN×Int×S2×List Int×List Int×Bool×Unit))):=fun x=>
 let t298:=x.1
 let o299:=x.2.1
 let A300:=x.2.2.1
 let r301:=x.2.2.2.1
 let v302:=x.2.2.2.2.1
 let v303:=x.2.2.2.2.2.1
 let v304:=x.2.2.2.2.2.2.1
 let v305:=x.2.2.2.2.2.2.2.1
 bif blt v305 v304 then bif aE v305 v303.length then (bK (v303.getD v305.toNat U0).1 (bif aE (v303.getD v305.toNat U0).2 r301.length then some (bne (r301.getD (v303.getD v305.toNat U0).2.toNat (0 : Int)) 2) else none) (some false)).bind fun c308=>
 bif c308 then some (.inr (.inr (t298,o299,A300,r301,([] : List Int),false,()))) else some (.inl (t298,o299,A300,r301,v302,v303,v304,wr (v305+1),())) else none
 else some (.inr (.inl (t298,o299,A300,r301,v302,())))
def f115 (x:aN×Int×S2×List Int×Unit):Option ((List Int×Bool×Unit)×(List Int×Unit)):=
 let t1:=x.1
 let A3:=x.2.2.1
 (f159 (A3.1,())).bind fun r5=>(f160 (A3,())).bind fun r6=>
 (aA f115_20 (t1,x.2.1,A3,x.2.2.2.1,(t1,()),(A3,()),([] : List Int),([] : List Int),r5.1.1,r6.1.1,(r6.1.1.length : Int),0,())).bind fun y331=>match y331 with
 | .inl z289=>(
 let r293:=z289.2.2.2.1
 let v294:=z289.2.2.2.2.2.2.1
 bif beq z289.2.2.2.2.2.1.1.1 11 then bif aE z289.2.2.2.2.2.1.1.2.2.1 z289.2.2.2.2.1.1.length then let v296:=(z289.2.2.2.2.1.1.getD z289.2.2.2.2.2.1.1.2.2.1.toNat P0).2.2.2.2.2.1
 (aA f115_168 (z289.1,z289.2.1,z289.2.2.1,r293,v294,v296,(v296.length : Int),0,())).bind fun y323=>match y323 with
 | .inl z310=>some ((z310.2.2.2.2.1,true,()),z310.2.2.2.1,())
 | .inr z316=>some ((z316.2.2.2.2.1,z316.2.2.2.2.2.1,()),z316.2.2.2.1,()) else none else some ((v294,true,()),r293,()))
 | .inr z324=>some ((z324.2.2.2.2.1,z324.2.2.2.2.2.1,()),z324.2.2.2.1,())
def f120_12:Lp (List S4×List S4×Int×Int×Unit) (List S4×Unit):=fun x=>
 let out3:=x.1
 let v4:=x.2.1
 let v5:=x.2.2.1
 let v6:=x.2.2.2.1
 bif blt v6 v5 then bif aE v6 v4.length then let row8:=([v4.getD v6.toNat G0])
 bif cN (out3.length+row8.length) 5864062014805 then some (.inl (out3++row8,v4,v5,wr (v6+1),())) else none else none else some (.inr (out3,()))
def f120 (x:List S4×Unit):Option ((List S4×Unit)×(Unit)):=
 let a1:=x.1
 (aA f120_12 (([] : List S4),a1,(a1.length : Int),0,())).bind fun z11=>some ((z11.1,()),())
def f162_8:Lp (Int×List S4×Int×Int×Unit) (((Unit)⊕(Bool×Unit))):=fun x=>
 let keep4:=x.1
 let v5:=x.2.1
 let v6:=x.2.2.1
 let v7:=x.2.2.2.1
 bif blt v7 v6 then bif aE v7 v5.length then bif (v5.getD v7.toNat G0).1&&(blt keep4 (v5.getD v7.toNat G0).2.1) then some (.inr (.inr (false,())))
 else some (.inl (keep4,v5,v6,wr (v7+1),())) else none else some (.inr (.inl ()))
def f162 (x:List S4×Int×Unit):Option ((Bool×Unit)×(Unit)):=
 let guards1:=x.1
 (aA f162_8 (x.2.1,guards1,(guards1.length : Int),0,())).bind fun y15=>match y15 with
 | .inl _=>some ((true,()),())
 | .inr z13=>some ((z13.1,()),())
def f116 (x:S2×List S4×Unit):Option ((List S4×Bool×Unit)×(Unit)):=
 let n1:=x.1
 let guards2:=x.2.1
 (f120 (guards2,())).bind fun r3=>let v4:=(r3.1.1.length : Int)
 bif beq n1.1 31 then let row6:=([(true,n1.2.2.1,n1.2.1)])
 bif cN (r3.1.1.length+row6.length) 5864062014805 then (bK (blt v4 50) ((f162 (guards2,n1.2.2.1,())).bind fun r9=>(some r9.1.1)) (some false)).bind fun c10=>
 some ((r3.1.1++row6,c10,()),()) else none else bif beq n1.1 33 then let row12:=([(false,n1.2.1,0)])
 bif cN (r3.1.1.length+row12.length) 5864062014805 then (bK (blt v4 50) ((f162 (guards2,n1.2.1,())).bind fun r15=>(some r15.1.1)) (some false)).bind fun c16=>
 some ((r3.1.1++row12,c16,()),()) else none
 else bif beq n1.1 32 then (bK (beq v4 0) (some true) (bif aE (wr (v4 - 1)) r3.1.1.length then some (!(r3.1.1.getD (wr (v4 - 1)).toNat G0).1) else none)).bind fun c19=>
 bif c19 then some ((([] : List S4),false,()),()) else let v20:=(wr (v4 - 1))
 bif inE v20 r3.1.1.length then some ((r3.1.1.take v20.toNat,true,()),()) else none
 else bif (beq n1.1 34)||((beq n1.1 35)||(beq n1.1 36)) then (bK (beq v4 0) (some true) (bif aE (wr (v4 - 1)) r3.1.1.length then some (r3.1.1.getD (wr (v4 - 1)).toNat G0).1 else none)).bind fun c25=>
 (bK c25 (some true) (bK (beq n1.1 34) ((f162 (guards2,n1.2.1,())).bind fun r26=>(some (!r26.1.1))) (some false))).bind fun c27=>bif c27 then some ((([] : List S4),false,()),())
 else bif beq n1.1 34 then let v29:=(wr (v4 - 1))
 bif aE v29 r3.1.1.length then let row30:=(r3.1.1.set v29.toNat ((r3.1.1.getD v29.toNat G0).1,n1.2.1,(r3.1.1.getD v29.toNat G0).2.2))
 bif beq n1.1 36 then let v32:=(wr (v4 - 1))
 bif inE v32 row30.length then some ((row30.take v32.toNat,true,()),()) else none else some ((row30,true,()),()) else none else bif beq n1.1 36 then let v35:=(wr (v4 - 1))
 bif inE v35 r3.1.1.length then some ((r3.1.1.take v35.toNat,true,()),()) else none else some ((r3.1.1,true,()),()) else some ((r3.1.1,true,()),())
def f117 (x:S2×List Int×Unit):Option ((Unit)×(List Int×Unit)):=
 let n1:=x.1
 let types2:=x.2.1
 bif beq n1.1 6 then bif aE n1.2.1 types2.length then some ((),types2.set n1.2.1.toNat (2 : Int),()) else none
 else bif (beq n1.1 22)||((beq n1.1 27)||(beq n1.1 28)) then bif aE n1.2.1 types2.length then some ((),types2.set n1.2.1.toNat (3 : Int),()) else none
 else bif beq n1.1 40 then let v9:=(wr (n1.2.1+1))
 bif aE v9 types2.length then some ((),types2.set v9.toNat (1 : Int),()) else none else bif beq n1.1 42 then bif aE n1.2.1 types2.length then some ((),types2.set n1.2.1.toNat (0 : Int),())
 else none else bif beq n1.1 41 then bif aE n1.2.2.2.1 types2.length then some ((),types2.set n1.2.2.2.1.toNat (3 : Int),()) else none else (f159 (n1.1,())).bind fun r15=>
 bif aE 0 r15.1.1.length then bif beq (r15.1.1.getD (0 : Int).toNat (0 : Int)) 1 then bif aE n1.2.1 types2.length then some ((),types2.set n1.2.1.toNat (1 : Int),()) else none
 else some ((),types2,()) else none
def f118_24:Lp (List S4×List Int×List Int×List Int×(S2×Unit)×Int×(S4×Unit)×List S4×Int×Int×List Int×Int×Int×Unit) (((List S4×List Int×List Int×List Int×(S2×Unit)×Int×(S4×Unit)×List S4×Int×Int×Unit)⊕(Bool×Unit))):=fun x=>
 let guards19:=x.1
 let taken20:=x.2.1
 let before21:=x.2.2.1
 let behind22:=x.2.2.2.1
 let i23:=x.2.2.2.2.2.1
 let v24:=x.2.2.2.2.2.2.2.1
 let v25:=x.2.2.2.2.2.2.2.2.1
 let v26:=x.2.2.2.2.2.2.2.2.2.1
 let v27:=x.2.2.2.2.2.2.2.2.2.2.1
 let v28:=x.2.2.2.2.2.2.2.2.2.2.2.1
 let v29:=x.2.2.2.2.2.2.2.2.2.2.2.2.1
 bif blt v29 v28 then bif aE v29 v27.length then bif blt (v27.getD v29.toNat (0 : Int)) x.2.2.2.2.2.2.1.1.2.1 then some (.inr (.inr (false,())))
 else some (.inl (guards19,taken20,before21,behind22,(x.2.2.2.2.1.1,()),i23,(x.2.2.2.2.2.2.1.1,()),v24,v25,v26,v27,v28,wr (v29+1),())) else none
 else some (.inr (.inl (guards19,taken20,before21,behind22,(x.2.2.2.2.1.1,()),i23,(x.2.2.2.2.2.2.1.1,()),v24,v25,v26,())))
def f118_52:Lp (List S4×List Int×List Int×List Int×(S2×Unit)×(S4×Unit)×Int×List S4×Int×Int×Unit) (((List S4×List Int×List Int×List Int×(S2×Unit)×List S4×Int×Int×Unit)⊕(Bool×Unit))):=fun x=>
 let guards46:=x.1
 let taken47:=x.2.1
 let before48:=x.2.2.1
 let behind49:=x.2.2.2.1
 let r50:=x.2.2.2.2.2.2.1
 let v51:=x.2.2.2.2.2.2.2.1
 let v52:=x.2.2.2.2.2.2.2.2.1
 let v53:=x.2.2.2.2.2.2.2.2.2.1
 bif blt r50 x.2.2.2.2.2.1.1.2.1 then bif aE r50 before48.length then bif aE r50 behind49.length then bif bne (before48.getD r50.toNat (0 : Int)) (behind49.getD r50.toNat (0 : Int)) then some (.inr (.inr (false,())))
 else some (.inl (guards46,taken47,before48,behind49,(x.2.2.2.2.1.1,()),(x.2.2.2.2.2.1.1,()),wr (r50+1),v51,v52,v53,())) else none else none
 else some (.inr (.inl (guards46,taken47,before48,behind49,(x.2.2.2.2.1.1,()),v51,v52,v53,())))
def f118_8:Lp (List S4×List Int×List Int×List Int×(S2×Unit)×List S4×Int×Int×Unit) (((Unit)⊕(Bool×Unit))):=fun x=>
 let guards7:=x.1
 let taken8:=x.2.1
 let before9:=x.2.2.1
 let behind10:=x.2.2.2.1
 let v11:=x.2.2.2.2.2.1
 let v12:=x.2.2.2.2.2.2.1
 let v13:=x.2.2.2.2.2.2.2.1
 bif blt v13 v12 then bif aE v13 v11.length then bif !(v11.getD v13.toNat G0).1 then some (.inl (guards7,taken8,before9,behind10,(x.2.2.2.2.1.1,()),v11,v12,wr (v13+1),()))
 else (aA f118_24 (guards7,taken8,before9,behind10,(x.2.2.2.2.1.1,()),v13,(v11.getD v13.toNat G0,()),v11,v12,v13,taken8,(taken8.length : Int),0,())).bind fun y73=>match y73 with
 | .inl z34=>(
 let guards35:=z34.1
 let taken36:=z34.2.1
 let before37:=z34.2.2.1
 let behind38:=z34.2.2.2.1
 let v40:=z34.2.2.2.2.2.2.2.1
 let v41:=z34.2.2.2.2.2.2.2.2.1
 let v42:=z34.2.2.2.2.2.2.2.2.2.1
 bif (beq z34.2.2.2.2.1.1.1 32)&&(beq z34.2.2.2.2.2.1 (wr ((guards35.length : Int) - 1))) then some (.inl (guards35,taken36,before37,behind38,(z34.2.2.2.2.1.1,()),v40,v41,wr (v42+1),()))
 else (aA f118_52 (guards35,taken36,before37,behind38,(z34.2.2.2.2.1.1,()),(z34.2.2.2.2.2.2.1.1,()),0,v40,v41,v42,())).bind fun y70=>match y70 with
 | .inl z59=>some (.inl (z59.1,z59.2.1,z59.2.2.1,z59.2.2.2.1,(z59.2.2.2.2.1.1,()),z59.2.2.2.2.2.1,z59.2.2.2.2.2.2.1,wr (z59.2.2.2.2.2.2.2.1+1),()))
 | .inr z68=>some (.inr (.inr (z68.1,()))))
 | .inr z71=>some (.inr (.inr (z71.1,()))) else none else some (.inr (.inl ()))
def f118 (x:S2×List S4×List Int×List Int×List Int×Unit):Option ((Bool×Unit)×(Unit)):=
 let guards2:=x.2.1
 (aA f118_8 (guards2,x.2.2.1,x.2.2.2.1,x.2.2.2.2.1,(x.1,()),guards2,(guards2.length : Int),0,())).bind fun y77=>match y77 with
 | .inl _=>some ((true,()),())
 | .inr z75=>some ((z75.1,()),())
def f119_84:Lp ((S6×Unit)×(S2×Unit)×List S5×List Int×Int×Unit) (((S6×Unit)×(S2×Unit)×List S5×List Int×Unit)):=fun x=>
 let out35:=x.2.2.1
 let t36:=x.2.2.2.1
 let r37:=x.2.2.2.2.1
 bif blt r37 t36.length then bif aE r37 t36.length then some (.inl ((x.1.1,()),(x.2.1.1,()),out35,t36.set r37.toNat (0 : Int),wr (r37+1),())) else none
 else some (.inr ((x.1.1,()),(x.2.1.1,()),out35,t36,()))
def f119 (x:S9×Int×S6×List Int×List S4×Unit):Option ((List S5×Unit)×(Unit)):=
 let f1:=x.1
 let at2:=x.2.1
 let before3:=x.2.2.1
 let types4:=x.2.2.2.1
 let guards5:=x.2.2.2.2.1
 bif aE at2 f1.2.2.2.2.2.2.2.1.length then bif ((bne (f1.2.2.2.2.2.2.2.1.getD at2.toNat aT).1 19)&&(bne (f1.2.2.2.2.2.2.2.1.getD at2.toNat aT).1 29))&&(bne (f1.2.2.2.2.2.2.2.1.getD at2.toNat aT).1 30) then let row11:=([(wr (at2+1),true,types4,guards5)])
 bif cN (([] : List S5).length+row11.length) 2199023255552 then let row12:=(([] : List S5)++row11)
 let v13:=(f1.2.2.2.2.2.2.2.1.getD at2.toNat aT).1
 bif beq v13 19 then let row16:=([((f1.2.2.2.2.2.2.2.1.getD at2.toNat aT).2.1,true,types4,guards5)])
 bif cN (row12.length+row16.length) 2199023255552 then some ((row12++row16,()),()) else none
 else bif (beq v13 20)||((beq v13 21)||((beq v13 38)||(beq v13 39))) then let row21:=([((f1.2.2.2.2.2.2.2.1.getD at2.toNat aT).2.2.1,true,types4,guards5)])
 bif cN (row12.length+row21.length) 2199023255552 then some ((row12++row21,()),()) else none else bif beq v13 41 then (f114 (types4,())).bind fun r24=>
 let v25:=(f1.2.2.2.2.2.2.2.1.getD at2.toNat aT).2.2.2.1
 let v26:=(f1.2.2.2.2.2.2.2.1.getD at2.toNat aT).2.2.2.1
 bif aE v26 before3.2.1.length then bif aE v25 r24.1.1.length then let row30:=([((f1.2.2.2.2.2.2.2.1.getD at2.toNat aT).2.2.1,true,r24.1.1.set v25.toNat (before3.2.1.getD v26.toNat (0 : Int)),guards5)])
 bif cN (row12.length+row30.length) 2199023255552 then some ((row12++row30,()),()) else none else none else none else bif beq v13 31 then (f114 (before3.2.1,())).bind fun r33=>
 (aA f119_84 ((before3,()),(f1.2.2.2.2.2.2.2.1.getD at2.toNat aT,()),row12,r33.1.1,(f1.2.2.2.2.2.2.2.1.getD at2.toNat aT).2.2.1,())).bind fun z42=>
 let out43:=z42.2.2.1
 let t44:=z42.2.2.2.1
 bif aE z42.2.1.1.2.2.1 t44.length then let row45:=(t44.set z42.2.1.1.2.2.1.toNat (1 : Int))
 let v46:=wr (z42.2.1.1.2.2.1+1)
 bif aE v46 row45.length then let row48:=([(z42.2.1.1.2.1,true,row45.set v46.toNat (1 : Int),z42.1.1.2.2)])
 bif cN (out43.length+row48.length) 2199023255552 then some ((out43++row48,()),()) else none else none else none else some ((row12,()),()) else none
 else let v50:=(f1.2.2.2.2.2.2.2.1.getD at2.toNat aT).1
 bif beq v50 19 then let row53:=([((f1.2.2.2.2.2.2.2.1.getD at2.toNat aT).2.1,true,types4,guards5)])
 bif cN (([] : List S5).length+row53.length) 2199023255552 then some ((([] : List S5)++row53,()),()) else none
 else bif (beq v50 20)||((beq v50 21)||((beq v50 38)||(beq v50 39))) then let row58:=([((f1.2.2.2.2.2.2.2.1.getD at2.toNat aT).2.2.1,true,types4,guards5)])
 bif cN (([] : List S5).length+row58.length) 2199023255552 then some ((([] : List S5)++row58,()),()) else none else bif beq v50 41 then (f114 (types4,())).bind fun r61=>
 let v62:=(f1.2.2.2.2.2.2.2.1.getD at2.toNat aT).2.2.2.1
 let v63:=(f1.2.2.2.2.2.2.2.1.getD at2.toNat aT).2.2.2.1
 bif aE v63 before3.2.1.length then bif aE v62 r61.1.1.length then let row67:=([((f1.2.2.2.2.2.2.2.1.getD at2.toNat aT).2.2.1,true,r61.1.1.set v62.toNat (before3.2.1.getD v63.toNat (0 : Int)),guards5)])
 bif cN (([] : List S5).length+row67.length) 2199023255552 then some ((([] : List S5)++row67,()),()) else none else none else none
 else bif beq v50 31 then (f114 (before3.2.1,())).bind fun r70=>
 (aA f119_84 ((before3,()),(f1.2.2.2.2.2.2.2.1.getD at2.toNat aT,()),([] : List S5),r70.1.1,(f1.2.2.2.2.2.2.2.1.getD at2.toNat aT).2.2.1,())).bind fun z72=>
 let out73:=z72.2.2.1
 let t74:=z72.2.2.2.1
 bif aE z72.2.1.1.2.2.1 t74.length then let row75:=(t74.set z72.2.1.1.2.2.1.toNat (1 : Int))
 let v76:=wr (z72.2.1.1.2.2.1+1)
 bif aE v76 row75.length then let row78:=([(z72.2.1.1.2.1,true,row75.set v76.toNat (1 : Int),z72.1.1.2.2)])
 bif cN (out73.length+row78.length) 2199023255552 then some ((out73++row78,()),()) else none else none else none else some ((([] : List S5),()),()) else none
def f121_16:Lp ((S6×Unit)×(S6×Unit)×Int×Int×Unit) ((((S6×Unit)×(S6×Unit)×Unit)⊕(Bool×Unit))):=fun x=>
 let v8:=x.2.2.1
 let v9:=x.2.2.2.1
 bif blt v9 v8 then bif aE v9 x.1.1.2.1.length then bif aE v9 x.2.1.1.2.1.length then bif bne (x.1.1.2.1.getD v9.toNat (0 : Int)) (x.2.1.1.2.1.getD v9.toNat (0 : Int)) then some (.inr (.inr (false,())))
 else some (.inl ((x.1.1,()),(x.2.1.1,()),v8,wr (v9+1),())) else none else none else some (.inr (.inl ((x.1.1,()),(x.2.1.1,()),())))
def f121_40:Lp ((S6×Unit)×(S6×Unit)×Int×Int×Unit) (((Unit)⊕(Bool×Unit))):=fun x=>
 let v17:=x.2.2.1
 let v18:=x.2.2.2.1
 bif blt v18 v17 then bif aE v18 x.1.1.2.2.length then bif aE v18 x.2.1.1.2.2.length then bif !((jF (x.1.1.2.2.getD v18.toNat G0).1 (x.2.1.1.2.2.getD v18.toNat G0).1)&&((beq (x.1.1.2.2.getD v18.toNat G0).2.1 (x.2.1.1.2.2.getD v18.toNat G0).2.1)&&((beq (x.1.1.2.2.getD v18.toNat G0).2.2 (x.2.1.1.2.2.getD v18.toNat G0).2.2)&&true))) then some (.inr (.inr (false,())))
 else some (.inl ((x.1.1,()),(x.2.1.1,()),v17,wr (v18+1),())) else none else none else some (.inr (.inl ()))
def f121 (x:S6×S6×Unit):Option ((Bool×Unit)×(Unit)):=
 let a1:=x.1
 let b2:=x.2.1
 bif (bne a1.2.1.length b2.2.1.length)||(bne a1.2.2.length b2.2.2.length) then some ((false,()),())
 else (aA f121_16 ((a1,()),(b2,()),(a1.2.1.length : Int),0,())).bind fun y28=>match y28 with
 | .inl z15=>(
 (aA f121_40 ((z15.1.1,()),(z15.2.1.1,()),(z15.1.1.2.2.length : Int),0,())).bind fun y25=>match y25 with
 | .inl _=>some ((true,()),())
 | .inr z23=>some ((z23.1,()),()))
 | .inr z26=>some ((z26.1,()),())
def f63_24:Lp (Int×(aN×Unit)×(aZ×Unit)×(S9×Unit)×List S6×List Bool×List Int×Int×Unit) ((Int×(aN×Unit)×(aZ×Unit)×(S9×Unit)×List S6×List Bool×List Int×Unit)):=fun x=>
 let o11:=x.1
 let v12:=x.2.2.2.2.1
 let v13:=x.2.2.2.2.2.1
 let v14:=x.2.2.2.2.2.2.1
 let v15:=x.2.2.2.2.2.2.2.1
 bif blt v15 x.2.2.2.1.1.2.2.1 then bif aE v15 v14.length then some (.inl (o11,(x.2.1.1,()),(x.2.2.1.1,()),(x.2.2.2.1.1,()),v12,v13,v14.set v15.toNat (1 : Int),wr (v15+1),())) else none
 else some (.inr (o11,(x.2.1.1,()),(x.2.2.1.1,()),(x.2.2.2.1.1,()),v12,v13,v14,()))
def f63_56:Lp (Int×(aN×Unit)×(aZ×Unit)×(S9×Unit)×List S6×List Bool×Int×Unit) ((Int×(aN×Unit)×(aZ×Unit)×(S9×Unit)×List S6×List Bool×Int×Unit)):=fun x=>
 let o30:=x.1
 let v31:=x.2.2.2.2.1
 let v32:=x.2.2.2.2.2.1
 let v33:=x.2.2.2.2.2.2.1
 (bK (blt v33 v32.length) (bif aE v33 v32.length then some (!(v32.getD v33.toNat false)) else none) (some false)).bind fun c36=>
 bif c36 then some (.inl (o30,(x.2.1.1,()),(x.2.2.1.1,()),(x.2.2.2.1.1,()),v31,v32,wr (v33+1),()))
 else some (.inr (o30,(x.2.1.1,()),(x.2.2.1.1,()),(x.2.2.2.1.1,()),v31,v32,v33,()))
def f63_72:Lp (Int×(aZ×Unit)×(S9×Unit)×List S6×Int×Int×Unit) ((((aZ×Unit)×List S6×Unit)⊕(List S6×(aZ×Unit)×Unit))):=fun x=>
 let o46:=x.1
 let v47:=x.2.2.2.1
 let v48:=x.2.2.2.2.1
 let v49:=x.2.2.2.2.2.1
 bif blt v49 v48 then bif aE v49 v47.length then (bK (v47.getD v49.toNat fI).1 ((f113 (x.2.2.1.1,v49,())).bind fun r52=>(some r52.1.1)) (some false)).bind fun c53=>
 bif c53 then (f112 (14,o46,v49,())).bind fun r54=>some (.inr (.inr (([] : List S6),(r54.1.1,()),()))) else some (.inl (o46,(x.2.1.1,()),(x.2.2.1.1,()),v47,v48,wr (v49+1),()))
 else none else some (.inr (.inl ((x.2.1.1,()),v47,())))
def f63_148:Lp (Int×(aN×Unit)×(aZ×Unit)×(S9×Unit)×List S6×List Bool×List S5×Int×Int×Unit) (((Int×(aN×Unit)×(aZ×Unit)×(S9×Unit)×List S6×List Bool×Unit)⊕(List S6×(aZ×Unit)×Unit))):=fun x=>
 let o79:=x.1
 let v80:=x.2.2.2.2.1
 let v81:=x.2.2.2.2.2.1
 let v82:=x.2.2.2.2.2.2.1
 let v83:=x.2.2.2.2.2.2.2.1
 let v84:=x.2.2.2.2.2.2.2.2.1
 bif blt v84 v83 then bif aE v84 v82.length then let v86:=(v82.getD v84.toNat F0).1
 bif aE v86 v80.length then bif !(v80.getD v86.toNat fI).1 then let v89:=(v82.getD v84.toNat F0).1
 (f114 ((v82.getD v84.toNat F0).2.2.1,())).bind fun r91=>(f120 ((v82.getD v84.toNat F0).2.2.2,())).bind fun r93=>
 bif aE v89 v80.length then let v95:=(v82.getD v84.toNat F0).1
 bif aE v95 v81.length then some (.inl (o79,(x.2.1.1,()),(x.2.2.1.1,()),(x.2.2.2.1.1,()),v80.set v89.toNat (true,r91.1.1,r93.1.1),v81.set v95.toNat true,v82,v83,wr (v84+1),()))
 else none else none else let v98:=(v82.getD v84.toNat F0).1
 bif aE v98 v80.length then (f121 (v80.getD v98.toNat fI,(v82.getD v84.toNat F0).2,())).bind fun r99=>
 bif !r99.1.1 then (f112 (13,o79,(v82.getD v84.toNat F0).1,())).bind fun r102=>some (.inr (.inr (([] : List S6),(r102.1.1,()),())))
 else some (.inl (o79,(x.2.1.1,()),(x.2.2.1.1,()),(x.2.2.2.1.1,()),v80,v81,v82,v83,wr (v84+1),())) else none else none else none
 else some (.inr (.inl (o79,(x.2.1.1,()),(x.2.2.1.1,()),(x.2.2.2.1.1,()),v80,v81,())))
def f63_52:Lp (Int×(aN×Unit)×(aZ×Unit)×(S9×Unit)×List S6×List Bool×Unit) ((List S6×(aZ×Unit)×Unit)):=fun x=>
 (aA f63_56 (x.1,(x.2.1.1,()),(x.2.2.1.1,()),(x.2.2.2.1.1,()),x.2.2.2.2.1,x.2.2.2.2.2.1,0,())).bind fun z38=>let o39:=z38.1
 let v40:=z38.2.2.2.2.1
 let v41:=z38.2.2.2.2.2.1
 let v42:=z38.2.2.2.2.2.2.1
 bif beq v42 v41.length then (aA f63_72 (o39,(z38.2.2.1.1,()),(z38.2.2.2.1.1,()),v40,(v40.length : Int),0,())).bind fun y60=>match y60 with
 | .inl z56=>some (.inr (z56.2.1,((0,0,0),()),()))
 | .inr z58=>some (.inr (z58.1,(z58.2.1.1,()),()))
 else bif aE v42 v41.length then bif aE v42 z38.2.2.2.1.1.2.2.2.2.2.2.2.1.length then bif aE v42 v40.length then (f114 ((v40.getD v42.toNat fI).2.1,())).bind fun r63=>
 (f115 (z38.2.1.1,o39,z38.2.2.2.1.1.2.2.2.2.2.2.2.1.getD v42.toNat aT,r63.1.1,())).bind fun r64=>bif !r64.1.2.1 then (f112 (10,o39,v42,())).bind fun r66=>
 some (.inr (([] : List S6),(r66.1.1,()),()))
 else bif aE v42 v40.length then (f116 (z38.2.2.2.1.1.2.2.2.2.2.2.2.1.getD v42.toNat aT,(v40.getD v42.toNat fI).2.2,())).bind fun r68=>
 bif !r68.1.2.1 then (f112 (11,o39,v42,())).bind fun r70=>some (.inr (([] : List S6),(r70.1.1,()),()))
 else (f117 (z38.2.2.2.1.1.2.2.2.2.2.2.2.1.getD v42.toNat aT,r64.2.1,())).bind fun r71=>
 bif aE v42 v40.length then bif aE v42 v40.length then (f118 (z38.2.2.2.1.1.2.2.2.2.2.2.2.1.getD v42.toNat aT,(v40.getD v42.toNat fI).2.2,r64.1.1,(v40.getD v42.toNat fI).2.1,r71.2.1,())).bind fun r74=>
 bif !r74.1.1 then (f112 (12,o39,v42,())).bind fun r76=>some (.inr (([] : List S6),(r76.1.1,()),()))
 else bif aE v42 v40.length then (f119 (z38.2.2.2.1.1,v42,v40.getD v42.toNat fI,r71.2.1,r68.1.1,())).bind fun r77=>
 (aA f63_148 (o39,(z38.2.1.1,()),(z38.2.2.1.1,()),(z38.2.2.2.1.1,()),v40,v41.set v42.toNat false,r77.1.1,(r77.1.1.length : Int),0,())).bind fun y110=>match y110 with
 | .inl z104=>some (.inl (z104.1,(z104.2.1.1,()),(z104.2.2.1.1,()),(z104.2.2.2.1.1,()),z104.2.2.2.2.1,z104.2.2.2.2.2.1,()))
 | .inr z108=>some (.inr (z108.1,(z108.2.1.1,()),())) else none else none else none else none else none else none else none
def f63 (x:aN×Int×Unit):Option ((List S6×aZ×Unit)×(Unit)):=
 let t1:=x.1
 let o2:=x.2.1
 bif aE o2 t1.length then let v4:=((t1.getD o2.toNat P0).2.2.2.2.2.2.2.1.length : Int)
 bif inE v4 (5026338869833 : Nat) then let v7:=((t1.getD o2.toNat P0).2.2.2.2.2.2.2.1.length : Int)
 bif inE v7 (281474976710656 : Nat) then let v9:=(t1.getD o2.toNat P0).2.2.2.2.1
 bif inE v9 (35184372088832 : Nat) then (aA f63_24 (o2,(t1,()),((0,0,0),()),(t1.getD o2.toNat P0,()),List.replicate v4.toNat fI,List.replicate v7.toNat false,List.replicate v9.toNat (0 : Int),0,())).bind fun z19=>
 let o20:=z19.1
 let v21:=z19.2.2.2.2.1
 let v22:=z19.2.2.2.2.2.1
 let v23:=z19.2.2.2.2.2.2.1
 bif z19.2.2.2.1.1.2.2.2.1 then bif aE z19.2.2.2.1.1.2.2.1 v23.length then bif aE 0 v21.length then bif aE 0 v22.length then (aA f63_52 (o20,(z19.2.1.1,()),(z19.2.2.1.1,()),(z19.2.2.2.1.1,()),v21.set (0 : Int).toNat (true,v23.set z19.2.2.2.1.1.2.2.1.toNat (3 : Int),([] : List S4)),v22.set (0 : Int).toNat true,())).bind fun z111=>
 some ((z111.1,z111.2.1.1,()),()) else none else none else none
 else bif aE 0 v21.length then bif aE 0 v22.length then (aA f63_52 (o20,(z19.2.1.1,()),(z19.2.2.1.1,()),(z19.2.2.2.1.1,()),v21.set (0 : Int).toNat (true,v23,([] : List S4)),v22.set (0 : Int).toNat true,())).bind fun z115=>
 some ((z115.1,z115.2.1.1,()),()) else none else none else none else none else none else none
def f24_20:Lp ((aN×Unit)×(aZ×Unit)×Int×Int×Unit) ((((aZ×Unit)×Unit)⊕((aZ×Unit)×Unit))):=fun x=>
 let v5:=x.2.2.1
 let v6:=x.2.2.2.1
 bif blt v6 v5 then (f63 (x.1.1,v6,())).bind fun r8=>bif bne r8.1.2.1.1 0 then some (.inr (.inr ((r8.1.2.1,()),()))) else some (.inl ((x.1.1,()),(x.2.1.1,()),v5,wr (v6+1),()))
 else some (.inr (.inl ((x.2.1.1,()),())))
def f24 (x:aN×Unit):Option ((aZ×Unit)×(Unit)):=
 let c1:=x.1
 (f62 (c1,())).bind fun r2=>bif bne r2.1.1.1 0 then some ((r2.1.1,()),()) else (aA f24_20 ((c1,()),((0,0,0),()),(c1.length : Int),0,())).bind fun y13=>match y13 with
 | .inl _=>some (((0,0,0),()),())
 | .inr z12=>some ((z12.1.1,()),())
def f64_8:Lp (Int×(S9×Unit)×Int×Unit) (Int×Unit):=fun x=>
 let i3:=x.1
 let n4:=x.2.2.1
 bif blt (wr (i3+n4)) x.2.1.1.2.2.2.2.2.2.2.1.length then let v8:=(wr (i3+n4))
 bif aE v8 x.2.1.1.2.2.2.2.2.2.2.1.length then bif beq (x.2.1.1.2.2.2.2.2.2.2.1.getD v8.toNat aT).1 42 then let v11:=(wr (i3+n4))
 bif aE v11 x.2.1.1.2.2.2.2.2.2.2.1.length then bif aE i3 x.2.1.1.2.2.2.2.2.2.2.1.length then bif beq (x.2.1.1.2.2.2.2.2.2.2.1.getD v11.toNat aT).2.1 (wr ((x.2.1.1.2.2.2.2.2.2.2.1.getD i3.toNat aT).2.1+n4)) then some (.inl (i3,(x.2.1.1,()),wr (n4+1),()))
 else some (.inr (n4,())) else none else none else some (.inr (n4,())) else none else some (.inr (n4,()))
def f64 (x:S9×Int×Unit):Option ((Int×Unit)×(Unit)):=
 (aA f64_8 (x.2.1,(x.1,()),0,())).bind fun z17=>some ((z17.1,()),())
def f65 (x:S9×Int×Int×Unit):Option ((S7×Bool×Unit)×(Unit)):=
 let t1:=x.1
 let o2:=x.2.1
 bif ble t1.2.2.2.2.2.2.2.1.length (wr (o2+1)) then some (((0,0,0,0,0,0,0),false,()),()) else bif aE o2 t1.2.2.2.2.2.2.2.1.length then let v7:=(wr (o2+1))
 bif aE v7 t1.2.2.2.2.2.2.2.1.length then let v8:=(t1.2.2.2.2.2.2.2.1.getD o2.toNat aT).2.1
 bif (((beq (t1.2.2.2.2.2.2.2.1.getD o2.toNat aT).1 18)&&(ble 13 (t1.2.2.2.2.2.2.2.1.getD o2.toNat aT).2.2.1))&&((beq (t1.2.2.2.2.2.2.2.1.getD v7.toNat aT).1 20)||(beq (t1.2.2.2.2.2.2.2.1.getD v7.toNat aT).1 21)))&&(beq (t1.2.2.2.2.2.2.2.1.getD v7.toNat aT).2.1 (wr ((-1 : Int) - v8))) then let v14:=(t1.2.2.2.2.2.2.2.1.getD o2.toNat aT).2.2.1
 let v15:=(t1.2.2.2.2.2.2.2.1.getD o2.toNat aT).2.2.2.1
 let v16:=(t1.2.2.2.2.2.2.2.1.getD o2.toNat aT).2.2.2.2
 let v17:=(t1.2.2.2.2.2.2.2.1.getD v7.toNat aT).2.2.1
 bif beq (t1.2.2.2.2.2.2.2.1.getD v7.toNat aT).1 20 then some (((43,v8,v14,v15,v16,v17,1),true,()),()) else some (((43,v8,v14,v15,v16,v17,0),true,()),())
 else bif bne (t1.2.2.2.2.2.2.2.1.getD o2.toNat aT).1 4 then some (((0,0,0,0,0,0,0),false,()),())
 else bif (((beq (t1.2.2.2.2.2.2.2.1.getD v7.toNat aT).1 18)&&(beq (t1.2.2.2.2.2.2.2.1.getD v7.toNat aT).2.2.2.1 (wr ((-1 : Int) - v8))))&&(bne (t1.2.2.2.2.2.2.2.1.getD v7.toNat aT).2.2.2.2 v8))&&(bne (t1.2.2.2.2.2.2.2.1.getD v7.toNat aT).2.2.2.2 (wr ((-1 : Int) - v8))) then some (((44,(t1.2.2.2.2.2.2.2.1.getD v7.toNat aT).2.1,(t1.2.2.2.2.2.2.2.1.getD v7.toNat aT).2.2.1,(t1.2.2.2.2.2.2.2.1.getD v7.toNat aT).2.2.2.2,(t1.2.2.2.2.2.2.2.1.getD o2.toNat aT).2.2.1,1,v8),true,()),())
 else bif (((beq (t1.2.2.2.2.2.2.2.1.getD v7.toNat aT).1 18)&&(beq (t1.2.2.2.2.2.2.2.1.getD v7.toNat aT).2.2.2.2 (wr ((-1 : Int) - v8))))&&(bne (t1.2.2.2.2.2.2.2.1.getD v7.toNat aT).2.2.2.1 v8))&&(bne (t1.2.2.2.2.2.2.2.1.getD v7.toNat aT).2.2.2.1 (wr ((-1 : Int) - v8))) then some (((44,(t1.2.2.2.2.2.2.2.1.getD v7.toNat aT).2.1,(t1.2.2.2.2.2.2.2.1.getD v7.toNat aT).2.2.1,(t1.2.2.2.2.2.2.2.1.getD v7.toNat aT).2.2.2.1,(t1.2.2.2.2.2.2.2.1.getD o2.toNat aT).2.2.1,0,v8),true,()),())
 else (bK ((((beq (t1.2.2.2.2.2.2.2.1.getD v7.toNat aT).1 15)&&(beq (t1.2.2.2.2.2.2.2.1.getD v7.toNat aT).2.2.2.1 (wr ((-1 : Int) - v8))))&&(bne (t1.2.2.2.2.2.2.2.1.getD v7.toNat aT).2.2.1 v8))&&(bne (t1.2.2.2.2.2.2.2.1.getD v7.toNat aT).2.2.1 (wr ((-1 : Int) - v8)))) (bif aE (t1.2.2.2.2.2.2.2.1.getD o2.toNat aT).2.2.1 t1.2.2.2.2.2.2.1.length then some (beq (t1.2.2.2.2.2.2.1.getD (t1.2.2.2.2.2.2.2.1.getD o2.toNat aT).2.2.1.toNat jI).1 4) else none) (some false)).bind fun c45=>
 bif c45 then some (((45,(t1.2.2.2.2.2.2.2.1.getD v7.toNat aT).2.1,(t1.2.2.2.2.2.2.2.1.getD v7.toNat aT).2.2.1,(t1.2.2.2.2.2.2.2.1.getD o2.toNat aT).2.2.1,x.2.2.1,0,v8),true,()),())
 else some (((0,0,0,0,0,0,0),false,()),()) else none else none
def f25_28:Lp ((List S8×Int×Unit)×(List S8×Int×Unit)×(S9×Unit)×(List S7×Unit)×List S9×Int×Int×List S2×Int×Int×Unit) (((List S8×Int×Unit)×(List S8×Int×Unit)×(List S7×Unit)×List S9×Int×Int×Unit)):=fun x=>
 let v9:=x.2.2.2.2.1
 let v10:=x.2.2.2.2.2.1
 let v11:=x.2.2.2.2.2.2.1
 let v12:=x.2.2.2.2.2.2.2.1
 let v13:=x.2.2.2.2.2.2.2.2.1
 let v14:=x.2.2.2.2.2.2.2.2.2.1
 bif blt v14 v13 then bif aE v14 v12.length then (f64 (x.2.2.1.1,v14,())).bind fun r21=>(f65 (x.2.2.1.1,v14,x.2.1.2.1,())).bind fun r22=>
 bif blt 1 r21.1.1 then let row25:=([(46,(v12.getD v14.toNat aT).2.1,r21.1.1,0,0,0,0)])
 bif cN (x.2.2.2.1.1.length+row25.length) 2513169434916 then some (.inl ((x.1.1,x.1.2.1,()),(x.2.1.1,x.2.1.2.1,()),(x.2.2.1.1,()),(x.2.2.2.1.1++row25,()),v9,v10,v11,v12,v13,wr (v14+1),()))
 else none
 else bif r22.1.2.1 then bif beq r22.1.1.1 45 then bif cN (x.2.2.2.1.1.length+([r22.1.1]).length) 2513169434916 then some (.inl ((x.1.1,x.1.2.1,()),(x.2.1.1,wr (x.2.1.2.1+1),()),(x.2.2.1.1,()),(x.2.2.2.1.1++([r22.1.1]),()),v9,v10,v11,v12,v13,wr (v14+1),()))
 else none
 else bif cN (x.2.2.2.1.1.length+([r22.1.1]).length) 2513169434916 then some (.inl ((x.1.1,x.1.2.1,()),(x.2.1.1,x.2.1.2.1,()),(x.2.2.1.1,()),(x.2.2.2.1.1++([r22.1.1]),()),v9,v10,v11,v12,v13,wr (v14+1),()))
 else none
 else let row36:=([((v12.getD v14.toNat aT).1,(v12.getD v14.toNat aT).2.1,(v12.getD v14.toNat aT).2.2.1,(v12.getD v14.toNat aT).2.2.2.1,(v12.getD v14.toNat aT).2.2.2.2,0,0)])
 bif cN (x.2.2.2.1.1.length+row36.length) 2513169434916 then some (.inl ((x.1.1,x.1.2.1,()),(x.2.1.1,x.2.1.2.1,()),(x.2.2.1.1,()),(x.2.2.2.1.1++row36,()),v9,v10,v11,v12,v13,wr (v14+1),()))
 else none else none else some (.inr ((x.1.1,x.1.2.1,()),(x.2.1.1,x.2.1.2.1,()),(x.2.2.2.1.1,()),v9,v10,v11,()))
def f25_12:Lp ((List S8×Int×Unit)×(List S8×Int×Unit)×List S9×Int×Int×Unit) (((List S8×Int×Unit)×(List S8×Int×Unit)×Unit)):=fun x=>
 let v3:=x.2.2.1
 let v4:=x.2.2.2.1
 let v5:=x.2.2.2.2.1
 bif blt v5 v4 then bif aE v5 v3.length then let v7:=(v3.getD v5.toNat P0).2.2.2.2.2.2.2.1
 (aA f25_28 ((x.1.1,x.1.2.1,()),(x.2.1.1,x.2.1.2.1,()),(v3.getD v5.toNat P0,()),(([] : List S7),()),v3,v4,v5,v7,(v7.length : Int),0,())).bind fun z39=>
 let row43:=[z39.2.2.1.1]
 bif cN (z39.2.1.1.length+row43.length) 5864062014805 then some (.inl ((z39.1.1,z39.1.2.1,()),(z39.2.1.1++row43,z39.2.1.2.1,()),z39.2.2.2.1,z39.2.2.2.2.1,wr (z39.2.2.2.2.2.1+1),()))
 else none else none else some (.inr ((x.1.1,x.1.2.1,()),(x.2.1.1,x.2.1.2.1,()),()))
def f25 (x:aN×Unit):Option (((List S8×Int×Unit)×Unit)×(Unit)):=
 let c1:=x.1
 (aA f25_12 ((([] : List S8),0,()),(([] : List S8),0,()),c1,(c1.length : Int),0,())).bind fun z46=>some (((z46.2.1.1,z46.2.1.2.1,()),()),())
def f163 (x:S0×Unit):Option ((S0×Unit)×(Unit)):=
 some ((x.1,()),())
def f122_12:Lp (List S0×List S0×Int×Unit) (List S0×Unit):=fun x=>
 let a4:=x.1
 let out5:=x.2.1
 let i6:=x.2.2.1
 bif blt i6 a4.length then bif aE i6 a4.length then (f163 (a4.getD i6.toNat U0,())).bind fun r9=>bif aE i6 out5.length then some (.inl (a4,out5.set i6.toNat r9.1.1,wr (i6+1),()))
 else none else none else some (.inr (out5,()))
def f122 (x:List S0×Unit):Option ((List S0×Unit)×(Unit)):=
 let a1:=x.1
 let v2:=(a1.length : Int)
 bif inE v2 (17592186044416 : Nat) then (aA f122_12 (a1,List.replicate v2.toNat U0,0,())).bind fun z12=>some ((z12.1,()),()) else none
def f164 (x:S1×Unit):Option ((S1×Unit)×(Unit)):=
 some ((x.1,()),())
def f123_12:Lp (List S1×List S1×Int×Unit) (List S1×Unit):=fun x=>
 let a4:=x.1
 let out5:=x.2.1
 let i6:=x.2.2.1
 bif blt i6 a4.length then bif aE i6 a4.length then (f164 (a4.getD i6.toNat jI,())).bind fun r9=>
 bif aE i6 out5.length then some (.inl (a4,out5.set i6.toNat r9.1.1,wr (i6+1),())) else none else none else some (.inr (out5,()))
def f123 (x:List S1×Unit):Option ((List S1×Unit)×(Unit)):=
 let a1:=x.1
 let v2:=(a1.length : Int)
 bif inE v2 (5864062014805 : Nat) then (aA f123_12 (a1,List.replicate v2.toNat jI,0,())).bind fun z12=>some ((z12.1,()),()) else none
def f165 (x:S2×Unit):Option ((S2×Unit)×(Unit)):=
 some ((x.1,()),())
def f124_12:Lp (List S2×List S2×Int×Unit) (List S2×Unit):=fun x=>
 let a4:=x.1
 let out5:=x.2.1
 let i6:=x.2.2.1
 bif blt i6 a4.length then bif aE i6 a4.length then (f165 (a4.getD i6.toNat aT,())).bind fun r9=>bif aE i6 out5.length then some (.inl (a4,out5.set i6.toNat r9.1.1,wr (i6+1),()))
 else none else none else some (.inr (out5,()))
def f124 (x:List S2×Unit):Option ((List S2×Unit)×(Unit)):=
 let a1:=x.1
 let v2:=(a1.length : Int)
 bif inE v2 (7036874417766 : Nat) then (aA f124_12 (a1,List.replicate v2.toNat aT,0,())).bind fun z12=>some ((z12.1,()),()) else none
def f166 (x:S3×Unit):Option ((S3×Unit)×(Unit)):=
 some ((x.1,()),())
def f125_12:Lp (List S3×List S3×Int×Unit) (List S3×Unit):=fun x=>
 let a4:=x.1
 let out5:=x.2.1
 let i6:=x.2.2.1
 bif blt i6 a4.length then bif aE i6 a4.length then (f166 (a4.getD i6.toNat Dz3,())).bind fun r9=>
 bif aE i6 out5.length then some (.inl (a4,out5.set i6.toNat r9.1.1,wr (i6+1),())) else none else none else some (.inr (out5,()))
def f125 (x:List S3×Unit):Option ((List S3×Unit)×(Unit)):=
 let a1:=x.1
 let v2:=(a1.length : Int)
 bif inE v2 (7036874417766 : Nat) then (aA f125_12 (a1,List.replicate v2.toNat Dz3,0,())).bind fun z12=>some ((z12.1,()),()) else none
def f66 (x:S9×Unit):Option (((ByteArray×Int×Int×Bool×Int×List S0×List S1×List S2×List S3×Unit)×Unit)×(Unit)):=
 let a1:=x.1
 (f122 (a1.2.2.2.2.2.1,())).bind fun r2=>(f123 (a1.2.2.2.2.2.2.1,())).bind fun r3=>(f124 (a1.2.2.2.2.2.2.2.1,())).bind fun r4=>(f125 (a1.2.2.2.2.2.2.2.2,())).bind fun r5=>
 some (((a1.1,a1.2.1,a1.2.2.1,a1.2.2.2.1,a1.2.2.2.2.1,r2.1.1,r3.1.1,r4.1.1,r5.1.1,()),()),())
def f26_12:Lp (List S9×List S9×Int×Unit) (List S9×Unit):=fun x=>
 let a4:=x.1
 let out5:=x.2.1
 let i6:=x.2.2.1
 bif blt i6 a4.length then bif aE i6 a4.length then (f66 (a4.getD i6.toNat P0,())).bind fun r9=>
 bif aE i6 out5.length then some (.inl (a4,out5.set i6.toNat (r9.1.1.1,r9.1.1.2.1,r9.1.1.2.2.1,r9.1.1.2.2.2.1,r9.1.1.2.2.2.2.1,r9.1.1.2.2.2.2.2.1,r9.1.1.2.2.2.2.2.2.1,r9.1.1.2.2.2.2.2.2.2.1,r9.1.1.2.2.2.2.2.2.2.2.1),wr (i6+1),()))
 else none else none else some (.inr (out5,()))
def f26 (x:List S9×Unit):Option ((List S9×Unit)×(Unit)):=
 let a1:=x.1
 let v2:=(a1.length : Int)
 bif inE v2 (1954687338268 : Nat) then (aA f26_12 (a1,List.replicate v2.toNat P0,0,())).bind fun z12=>
 some ((z12.1,()),()) else none
def f7 (x:aN×Unit):Option (((List S9×Unit)×Unit)×(Unit)):=
 (f26 (x.1,())).bind fun r2=>some (((r2.1.1,()),()),())
def f126 (x:Int×Int×Int×Unit):Option ((Bool×Unit)×(Unit)):=
 let x1:=x.1
 some (((ble x.2.1 x1)&&(ble x1 x.2.2.1),()),())
def f167 (x:S1×Bool×Bool×Bool×Bool×Unit):Option ((Bool×Unit)×(Unit)):=
 let v1:=x.1
 some (((((x.2.1||(beq v1.2.1 0))&&(x.2.2.1||(dX v1.2.2.1 (0 : Nat) == some .eq)))&&(x.2.2.2.1||(jL v1.2.2.2.1 (⟨#[]⟩ : ByteArray))))&&(x.2.2.2.2.1||(beq v1.2.2.2.2 0)),()),())
def f127 (x:S1×Unit):Option ((Bool×Unit)×(Unit)):=
 let v1:=x.1
 bif beq v1.1 0 then (f167 (v1,false,false,false,false,())).bind fun r3=>some ((r3.1.1,()),()) else bif beq v1.1 1 then (f167 (v1,true,false,false,false,())).bind fun r5=>
 some ((r5.1.1&&((beq v1.2.1 0)||(beq v1.2.1 1)),()),()) else bif beq v1.1 2 then (f167 (v1,true,false,false,false,())).bind fun r8=>some ((r8.1.1,()),())
 else bif beq v1.1 3 then (f167 (v1,false,true,false,false,())).bind fun r10=>some ((r10.1.1,()),()) else bif beq v1.1 4 then (f167 (v1,false,false,true,false,())).bind fun r12=>
 some ((r12.1.1&&(ble v1.2.2.2.1.size 4000),()),()) else bif (beq v1.1 5)||((beq v1.1 6)||(beq v1.1 7)) then (f167 (v1,false,false,false,true,())).bind fun r16=>
 some ((r16.1.1&&(ble 0 v1.2.2.2.2),()),()) else bif beq v1.1 8 then (f167 (v1,true,false,false,false,())).bind fun r19=>some (((r19.1.1&&(ble 0 v1.2.1))&&(blt v1.2.1 15),()),())
 else some ((false,()),())
def f128 (x:Nat×Unit):Option ((Bool×Unit)×(Unit)):=
 let f1:=x.1
 some ((dX f1 f1 != some .eq,()),())
abbrev S28 := Int × Int × Int × Int
def ps169 : List VS := [.val Y2]
def rs169 : List VS := [.val Y33]
def f169 (x:S2×Unit):Option ((S28×Unit)×(Unit)):=
 some ((x.1.2,()),())
def f170 (x:aN×S9×Int×Int×Unit):Option ((Bool×Unit)×(Unit)):=
 let p2:=x.2.1
 let r3:=x.2.2.1
 let x4:=x.2.2.2.1
 bif (beq r3 1)||((beq r3 4)||((beq r3 5)||(beq r3 6))) then (f126 (x4,0,wr (p2.2.2.2.2.1 - 1),())).bind fun r8=>some ((r8.1.1,()),())
 else bif (beq r3 2)||(beq r3 3) then (f126 (bif blt x4 0 then wr ((-1 : Int) - x4) else x4,0,wr (p2.2.2.2.2.1 - 1),())).bind fun r14=>some ((r14.1.1,()),())
 else bif beq r3 7 then (f126 (x4,1,100000,())).bind fun r16=>some ((r16.1.1,()),()) else bif beq r3 8 then (f126 (x4,0,100000,())).bind fun r18=>some ((r18.1.1,()),())
 else bif beq r3 9 then (f126 (x4,0,wr ((p2.2.2.2.2.2.2.1.length : Int) - 1),())).bind fun r22=>some ((r22.1.1,()),())
 else bif beq r3 10 then (f126 (x4,0,wr ((p2.2.2.2.2.2.1.length : Int) - 1),())).bind fun r26=>some ((r26.1.1,()),())
 else bif beq r3 11 then (f126 (x4,0,wr ((x.1.length : Int) - 1),())).bind fun r30=>some ((r30.1.1,()),())
 else bif beq r3 12 then (f126 (x4,0,wr ((p2.2.2.2.2.2.2.2.1.length : Int) - 1),())).bind fun r34=>some ((r34.1.1,()),()) else bif beq r3 13 then (f126 (x4,1,18,())).bind fun r36=>
 some ((r36.1.1,()),()) else bif beq r3 14 then (f126 (x4,19,22,())).bind fun r38=>some ((r38.1.1,()),()) else bif beq r3 15 then (f126 (x4,0,250,())).bind fun r40=>
 some ((r40.1.1,()),()) else bif beq r3 16 then (f126 (x4,0,p2.2.2.2.2.1,())).bind fun r42=>some ((r42.1.1,()),())
 else bif beq r3 17 then (f126 (x4,0,wr (p2.2.2.2.2.1 - 2),())).bind fun r45=>some ((r45.1.1,()),()) else bif beq r3 18 then (f126 (x4,0,wr (p2.2.2.2.2.1 - 3),())).bind fun r48=>
 some ((r48.1.1,()),()) else bif (beq r3 19)||(beq r3 20) then (f126 (x4,0,wr (p2.2.2.2.2.1 - 2),())).bind fun r52=>some ((r52.1.1,()),()) else some ((beq x4 0,()),())
def f130_20:Lp ((aN×Unit)×(S9×Unit)×(S28×Unit)×S28×Int×Unit) (((Unit)⊕(Bool×Unit))):=fun x=>
 let v7:=x.2.2.2.1
 let v8:=x.2.2.2.2.1
 bif blt v8 4 then bif aE v8 4 then let v10:=([v7.1,v7.2.1,v7.2.2.1,v7.2.2.2].getD v8.toNat 0)
 bif beq v8 0 then (f170 (x.1.1,x.2.1.1,x.2.2.1.1.1,v10,())).bind fun r11=>bif !r11.1.1 then some (.inr (.inr (false,())))
 else some (.inl ((x.1.1,()),(x.2.1.1,()),(x.2.2.1.1,()),v7,wr (v8+1),())) else bif beq v8 1 then (f170 (x.1.1,x.2.1.1,x.2.2.1.1.2.1,v10,())).bind fun r14=>
 bif !r14.1.1 then some (.inr (.inr (false,()))) else some (.inl ((x.1.1,()),(x.2.1.1,()),(x.2.2.1.1,()),v7,wr (v8+1),()))
 else bif beq v8 2 then (f170 (x.1.1,x.2.1.1,x.2.2.1.1.2.2.1,v10,())).bind fun r17=>bif !r17.1.1 then some (.inr (.inr (false,())))
 else some (.inl ((x.1.1,()),(x.2.1.1,()),(x.2.2.1.1,()),v7,wr (v8+1),())) else bif beq v8 3 then (f170 (x.1.1,x.2.1.1,x.2.2.1.1.2.2.2,v10,())).bind fun r20=>
 bif !r20.1.1 then some (.inr (.inr (false,()))) else some (.inl ((x.1.1,()),(x.2.1.1,()),(x.2.2.1.1,()),v7,wr (v8+1),())) else none else none else some (.inr (.inl ()))
def f130 (x:aN×S9×S2×Unit):Option ((Bool×Unit)×(Unit)):=
 let n3:=x.2.2.1
 bif !(eK bB n3.1) then some ((false,()),()) else (f169 (n3,())).bind fun r6=>
 (aA f130_20 ((x.1,()),(x.2.1,()),(((aQ bB n3.1).getD 0 0,(aQ bB n3.1).getD 1 0,(aQ bB n3.1).getD 2 0,(aQ bB n3.1).getD 3 0),()),r6.1.1,0,())).bind fun y26=>match y26 with
 | .inl _=>some ((true,()),())
 | .inr z24=>some ((z24.1,()),())
def f67_12:Lp ((aN×Unit)×(aZ×Unit)×Int×List S9×Int×Int×Unit) (((aN×Unit)×(aZ×Unit)×Int×Unit)):=fun x=>
 let r3:=x.2.2.1
 let v4:=x.2.2.2.1
 let v5:=x.2.2.2.2.1
 let v6:=x.2.2.2.2.2.1
 bif blt v6 v5 then bif aE v6 v4.length then some (.inl ((x.1.1,()),(x.2.1.1,()),wr (r3+((v4.getD v6.toNat P0).2.2.2.2.2.2.2.1.length : Int)),v4,v5,wr (v6+1),()))
 else none else some (.inr ((x.1.1,()),(x.2.1.1,()),r3,()))
def f67_40:Lp ((aN×Unit)×(aZ×Unit)×List S9×Int×Int×Unit) ((((aN×Unit)×(aZ×Unit)×Unit)⊕((aZ×Unit)×Unit))):=fun x=>
 let v19:=x.2.2.1
 let v20:=x.2.2.2.1
 let v21:=x.2.2.2.2.1
 bif blt v21 v20 then bif aE v21 v19.length then let v23:=(v19.getD v21.toNat P0).2.2.2.2.1
 (bK (blt 40 (v19.getD v21.toNat P0).1.size) (some true) ((f126 ((v19.getD v21.toNat P0).2.1,0,100000,())).bind fun r29=>(some (!r29.1.1)))).bind fun c30=>
 (bK c30 (some true) ((f126 ((v19.getD v21.toNat P0).2.2.2.2.1,0,250,())).bind fun r31=>(some (!r31.1.1)))).bind fun c32=>
 (bK c32 (some true) ((f126 ((v19.getD v21.toNat P0).2.2.1,0,bif (v19.getD v21.toNat P0).2.2.2.1 then wr (v23 - 1) else v23,())).bind fun r33=>(some (!r33.1.1)))).bind fun c34=>
 bif ((c34||(blt 250 (v19.getD v21.toNat P0).2.2.2.2.2.1.length))||(blt 500 (v19.getD v21.toNat P0).2.2.2.2.2.2.1.length))||((beq v21 0)&&((blt 0 (v19.getD v21.toNat P0).2.2.1)||(blt 0 (v19.getD v21.toNat P0).2.2.2.2.2.1.length))) then some (.inr (.inr (((2,v21,0),()),())))
 else some (.inl ((x.1.1,()),(x.2.1.1,()),v19,v20,wr (v21+1),())) else none else some (.inr (.inl ((x.1.1,()),(x.2.1.1,()),())))
def f67_88:Lp ((aN×Unit)×(aZ×Unit)×Int×List S9×Int×Int×List S1×Int×Int×Unit) ((((aN×Unit)×(aZ×Unit)×List S9×Int×Int×Unit)⊕((aZ×Unit)×Unit))):=fun x=>
 let v47:=x.2.2.1
 let v48:=x.2.2.2.1
 let v49:=x.2.2.2.2.1
 let v50:=x.2.2.2.2.2.1
 let v51:=x.2.2.2.2.2.2.1
 let v52:=x.2.2.2.2.2.2.2.1
 let v53:=x.2.2.2.2.2.2.2.2.1
 bif blt v53 v52 then bif aE v53 v51.length then (f127 (v51.getD v53.toNat jI,())).bind fun r55=>
 (bK ((((!r55.1.1)||(beq (v51.getD v53.toNat jI).1 5))||(beq (v51.getD v53.toNat jI).1 6))||(beq (v51.getD v53.toNat jI).1 7)) (some true) (bK (beq (v51.getD v53.toNat jI).1 3) ((f128 ((v51.getD v53.toNat jI).2.2.1,())).bind fun r60=>(some r60.1.1)) (some false))).bind fun c61=>
 (bK c61 (some true) (bK (bne (v51.getD v53.toNat jI).1 3) ((f129 ((v51.getD v53.toNat jI).2.2.1,())).bind fun r62=>(some r62.1.1)) (some false))).bind fun c63=>
 bif c63 then some (.inr (.inr (((3,v47,v53),()),()))) else some (.inl ((x.1.1,()),(x.2.1.1,()),v47,v48,v49,v50,v51,v52,wr (v53+1),())) else none
 else some (.inr (.inl ((x.1.1,()),(x.2.1.1,()),v48,v49,v50,())))
def f67_76:Lp ((aN×Unit)×(aZ×Unit)×List S9×Int×Int×Unit) ((((aN×Unit)×(aZ×Unit)×Unit)⊕((aZ×Unit)×Unit))):=fun x=>
 let v41:=x.2.2.1
 let v42:=x.2.2.2.1
 let v43:=x.2.2.2.2.1
 bif blt v43 v42 then bif aE v43 v41.length then let v45:=(v41.getD v43.toNat P0).2.2.2.2.2.2.1
 (aA f67_88 ((x.1.1,()),(x.2.1.1,()),v43,v41,v42,v43,v45,(v45.length : Int),0,())).bind fun y71=>match y71 with
 | .inl z65=>some (.inl ((z65.1.1,()),(z65.2.1.1,()),z65.2.2.1,z65.2.2.2.1,wr (z65.2.2.2.2.1+1),()))
 | .inr z70=>some (.inr (.inr ((z70.1.1,()),()))) else none else some (.inr (.inl ((x.1.1,()),(x.2.1.1,()),())))
def f67_128:Lp ((aN×Unit)×(aZ×Unit)×Int×(S9×Unit)×List S9×Int×Int×List S3×Int×Int×Unit) ((((aN×Unit)×(aZ×Unit)×List S9×Int×Int×Unit)⊕((aZ×Unit)×Unit))):=fun x=>
 let v80:=x.2.2.1
 let v81:=x.2.2.2.2.1
 let v82:=x.2.2.2.2.2.1
 let v83:=x.2.2.2.2.2.2.1
 let v84:=x.2.2.2.2.2.2.2.1
 let v85:=x.2.2.2.2.2.2.2.2.1
 let v86:=x.2.2.2.2.2.2.2.2.2.1
 bif blt v86 v85 then bif aE v86 v84.length then (bK ((blt (v84.getD v86.toNat Dz3).1.size 1)||(blt 40 (v84.getD v86.toNat Dz3).1.size)) (some true) ((f126 ((v84.getD v86.toNat Dz3).2.1,0,wr (x.2.2.2.1.1.2.2.2.2.1 - 1),())).bind fun r92=>(some (!r92.1.1)))).bind fun c93=>
 bif (((c93||(blt (v84.getD v86.toNat Dz3).2.2.1 0))||(blt (v84.getD v86.toNat Dz3).2.2.2 (v84.getD v86.toNat Dz3).2.2.1))||(blt x.2.2.2.1.1.2.2.2.2.2.2.2.1.length (v84.getD v86.toNat Dz3).2.2.2))||(beq v86 500) then some (.inr (.inr (((4,v80,v86),()),())))
 else some (.inl ((x.1.1,()),(x.2.1.1,()),v80,(x.2.2.2.1.1,()),v81,v82,v83,v84,v85,wr (v86+1),())) else none else some (.inr (.inl ((x.1.1,()),(x.2.1.1,()),v81,v82,v83,())))
def f67_116:Lp ((aN×Unit)×(aZ×Unit)×List S9×Int×Int×Unit) ((((aN×Unit)×(aZ×Unit)×Unit)⊕((aZ×Unit)×Unit))):=fun x=>
 let v74:=x.2.2.1
 let v75:=x.2.2.2.1
 let v76:=x.2.2.2.2.1
 bif blt v76 v75 then bif aE v76 v74.length then let v78:=(v74.getD v76.toNat P0).2.2.2.2.2.2.2.2
 (aA f67_128 ((x.1.1,()),(x.2.1.1,()),v76,(v74.getD v76.toNat P0,()),v74,v75,v76,v78,(v78.length : Int),0,())).bind fun y105=>match y105 with
 | .inl z99=>some (.inl ((z99.1.1,()),(z99.2.1.1,()),z99.2.2.1,z99.2.2.2.1,wr (z99.2.2.2.2.1+1),()))
 | .inr z104=>some (.inr (.inr ((z104.1.1,()),()))) else none else some (.inr (.inl ((x.1.1,()),(x.2.1.1,()),())))
def f67_176:Lp ((aN×Unit)×(aZ×Unit)×Int×(S9×Unit)×List S9×Int×Int×List S2×Int×Int×Unit) ((((aN×Unit)×(aZ×Unit)×List S9×Int×Int×Unit)⊕((aZ×Unit)×Unit))):=fun x=>
 let v117:=x.2.2.1
 let v118:=x.2.2.2.2.1
 let v119:=x.2.2.2.2.2.1
 let v120:=x.2.2.2.2.2.2.1
 let v121:=x.2.2.2.2.2.2.2.1
 let v122:=x.2.2.2.2.2.2.2.2.1
 let v123:=x.2.2.2.2.2.2.2.2.2.1
 bif blt v123 v122 then bif aE v123 v121.length then (f130 (x.1.1,x.2.2.2.1.1,v121.getD v123.toNat aT,())).bind fun r125=>
 bif (!r125.1.1)||((beq v123 (wr ((x.2.2.2.1.1.2.2.2.2.2.2.2.1.length : Int) - 1)))&&((bne (v121.getD v123.toNat aT).1 19)&&((bne (v121.getD v123.toNat aT).1 29)&&(bne (v121.getD v123.toNat aT).1 30)))) then some (.inr (.inr (((5,v117,v123),()),())))
 else some (.inl ((x.1.1,()),(x.2.1.1,()),v117,(x.2.2.2.1.1,()),v118,v119,v120,v121,v122,wr (v123+1),())) else none
 else some (.inr (.inl ((x.1.1,()),(x.2.1.1,()),v118,v119,v120,())))
def f67_156:Lp ((aN×Unit)×(aZ×Unit)×List S9×Int×Int×Unit) ((((aN×Unit)×(aZ×Unit)×Unit)⊕((aZ×Unit)×Unit))):=fun x=>
 let v108:=x.2.2.1
 let v109:=x.2.2.2.1
 let v110:=x.2.2.2.2.1
 bif blt v110 v109 then bif aE v110 v108.length then bif beq (v108.getD v110.toNat P0).2.2.2.2.2.2.2.1.length 0 then some (.inr (.inr (((5,v110,0),()),())))
 else let v115:=(v108.getD v110.toNat P0).2.2.2.2.2.2.2.1
 (aA f67_176 ((x.1.1,()),(x.2.1.1,()),v110,(v108.getD v110.toNat P0,()),v108,v109,v110,v115,(v115.length : Int),0,())).bind fun y135=>match y135 with
 | .inl z129=>some (.inl ((z129.1.1,()),(z129.2.1.1,()),z129.2.2.1,z129.2.2.2.1,wr (z129.2.2.2.2.1+1),()))
 | .inr z134=>some (.inr (.inr ((z134.1.1,()),()))) else none else some (.inr (.inl ((x.1.1,()),(x.2.1.1,()),())))
def f67_244:Lp ((aN×Unit)×(aZ×Unit)×List Bool×Int×(S9×Unit)×Int×Bool×List S9×Int×Int×List S2×Int×Int×List S0×Int×Int×Unit) (((aN×Unit)×(aZ×Unit)×List Bool×Int×(S9×Unit)×Int×Bool×List S9×Int×Int×List S2×Int×Int×Unit)):=fun x=>
 let v167:=x.2.2.1
 let v168:=x.2.2.2.1
 let v169:=x.2.2.2.2.2.1
 let v170:=x.2.2.2.2.2.2.1
 let v171:=x.2.2.2.2.2.2.2.1
 let v172:=x.2.2.2.2.2.2.2.2.1
 let v173:=x.2.2.2.2.2.2.2.2.2.1
 let v174:=x.2.2.2.2.2.2.2.2.2.2.1
 let v175:=x.2.2.2.2.2.2.2.2.2.2.2.1
 let v176:=x.2.2.2.2.2.2.2.2.2.2.2.2.1
 let v177:=x.2.2.2.2.2.2.2.2.2.2.2.2.2.1
 let v178:=x.2.2.2.2.2.2.2.2.2.2.2.2.2.2.1
 let v179:=x.2.2.2.2.2.2.2.2.2.2.2.2.2.2.2.1
 bif blt v179 v178 then bif aE v179 v177.length then (bK (v177.getD v179.toNat U0).1 ((f126 ((v177.getD v179.toNat U0).2,0,wr (x.2.2.2.2.1.1.2.2.2.2.1 - 1),())).bind fun r182=>(some (!r182.1.1))) (some false)).bind fun c183=>
 (bK c183 (some true) (bK (!(v177.getD v179.toNat U0).1) ((f126 ((v177.getD v179.toNat U0).2,0,wr ((x.2.2.2.2.1.1.2.2.2.2.2.1.length : Int) - 1),())).bind fun r184=>(some (!r184.1.1))) (some false))).bind fun c185=>
 some (.inl ((x.1.1,()),(x.2.1.1,()),v167,v168,(x.2.2.2.2.1.1,()),v169,c185||v170,v171,v172,v173,v174,v175,v176,v177,v178,wr (v179+1),())) else none
 else some (.inr ((x.1.1,()),(x.2.1.1,()),v167,v168,(x.2.2.2.2.1.1,()),v169,v170,v171,v172,v173,v174,v175,v176,()))
def f67_220:Lp ((aN×Unit)×(aZ×Unit)×List Bool×Int×(S9×Unit)×List S9×Int×Int×List S2×Int×Int×Unit) ((((aN×Unit)×(aZ×Unit)×List Bool×List S9×Int×Int×Unit)⊕((aZ×Unit)×Unit))):=fun x=>
 let v147:=x.2.2.1
 let v148:=x.2.2.2.1
 let v149:=x.2.2.2.2.2.1
 let v150:=x.2.2.2.2.2.2.1
 let v151:=x.2.2.2.2.2.2.2.1
 let v152:=x.2.2.2.2.2.2.2.2.1
 let v153:=x.2.2.2.2.2.2.2.2.2.1
 let v154:=x.2.2.2.2.2.2.2.2.2.2.1
 bif blt v154 v153 then bif aE v154 v152.length then bif bne (v152.getD v154.toNat aT).1 11 then some (.inl ((x.1.1,()),(x.2.1.1,()),v147,v148,(x.2.2.2.2.1.1,()),v149,v150,v151,v152,v153,wr (v154+1),()))
 else (bK (ble (v152.getD v154.toNat aT).2.2.1 v148) (some true) (bif aE (v152.getD v154.toNat aT).2.2.1 v147.length then some (v147.getD (v152.getD v154.toNat aT).2.2.1.toNat false) else none)).bind fun c161=>
 let v162:=(v152.getD v154.toNat aT).2.2.1
 bif aE v162 v147.length then let v164:=(v152.getD v154.toNat aT).2.2.1
 bif aE v164 x.1.1.length then let v165:=(x.1.1.getD v164.toNat P0).2.2.2.2.2.1
 (aA f67_244 ((x.1.1,()),(x.2.1.1,()),v147.set v162.toNat true,v148,(x.2.2.2.2.1.1,()),v154,c161,v149,v150,v151,v152,v153,v154,v165,(v165.length : Int),0,())).bind fun z188=>
 let v190:=z188.2.2.2.1
 bif z188.2.2.2.2.2.2.1 then some (.inr (.inr (((6,v190,z188.2.2.2.2.2.1),()),())))
 else some (.inl ((z188.1.1,()),(z188.2.1.1,()),z188.2.2.1,v190,(z188.2.2.2.2.1.1,()),z188.2.2.2.2.2.2.2.1,z188.2.2.2.2.2.2.2.2.1,z188.2.2.2.2.2.2.2.2.2.1,z188.2.2.2.2.2.2.2.2.2.2.1,z188.2.2.2.2.2.2.2.2.2.2.2.1,wr (z188.2.2.2.2.2.2.2.2.2.2.2.2.1+1),()))
 else none else none else none else some (.inr (.inl ((x.1.1,()),(x.2.1.1,()),v147,v149,v150,v151,())))
def f67_208:Lp ((aN×Unit)×(aZ×Unit)×List Bool×List S9×Int×Int×Unit) ((((aN×Unit)×(aZ×Unit)×List Bool×Unit)⊕((aZ×Unit)×Unit))):=fun x=>
 let v140:=x.2.2.1
 let v141:=x.2.2.2.1
 let v142:=x.2.2.2.2.1
 let v143:=x.2.2.2.2.2.1
 bif blt v143 v142 then bif aE v143 v141.length then let v145:=(v141.getD v143.toNat P0).2.2.2.2.2.2.2.1
 (aA f67_220 ((x.1.1,()),(x.2.1.1,()),v140,v143,(v141.getD v143.toNat P0,()),v141,v142,v143,v145,(v145.length : Int),0,())).bind fun y207=>match y207 with
 | .inl z200=>some (.inl ((z200.1.1,()),(z200.2.1.1,()),z200.2.2.1,z200.2.2.2.1,z200.2.2.2.2.1,wr (z200.2.2.2.2.2.1+1),()))
 | .inr z206=>some (.inr (.inr ((z206.1.1,()),()))) else none else some (.inr (.inl ((x.1.1,()),(x.2.1.1,()),v140,())))
def f67_284:Lp ((aZ×Unit)×List Bool×Int×Int×Unit) ((((aZ×Unit)×Unit)⊕((aZ×Unit)×Unit))):=fun x=>
 let v211:=x.2.1
 let v212:=x.2.2.1
 let v213:=x.2.2.2.1
 bif blt v213 v212 then (bK (blt 0 v213) (bif aE v213 v211.length then some (!(v211.getD v213.toNat false)) else none) (some false)).bind fun c216=>
 bif c216 then some (.inr (.inr (((7,v213,0),()),()))) else some (.inl ((x.1.1,()),v211,v212,wr (v213+1),())) else some (.inr (.inl ((x.1.1,()),())))
def f67 (x:aN×Unit):Option ((aZ×Unit)×(Unit)):=
 let t1:=x.1
 (aA f67_12 ((t1,()),((0,0,0),()),0,t1,(t1.length : Int),0,())).bind fun z12=>
 bif ((blt z12.1.1.length 1)||(blt 200 z12.1.1.length))||(blt 6000 z12.2.2.1) then some (((1,0,0),()),())
 else (aA f67_40 ((z12.1.1,()),(z12.2.1.1,()),z12.1.1,(z12.1.1.length : Int),0,())).bind fun y230=>match y230 with
 | .inl z39=>(
 (aA f67_76 ((z39.1.1,()),(z39.2.1.1,()),z39.1.1,(z39.1.1.length : Int),0,())).bind fun y228=>match y228 with
 | .inl z72=>(
 (aA f67_116 ((z72.1.1,()),(z72.2.1.1,()),z72.1.1,(z72.1.1.length : Int),0,())).bind fun y226=>match y226 with
 | .inl z106=>(
 (aA f67_156 ((z106.1.1,()),(z106.2.1.1,()),z106.1.1,(z106.1.1.length : Int),0,())).bind fun y224=>match y224 with
 | .inl z136=>(
 let v137:=(z136.1.1.length : Int)
 bif inE v137 (281474976710656 : Nat) then (aA f67_208 ((z136.1.1,()),(z136.2.1.1,()),List.replicate v137.toNat false,z136.1.1,(z136.1.1.length : Int),0,())).bind fun y222=>match y222 with
 | .inl z208=>(
 (aA f67_284 ((z208.2.1.1,()),z208.2.2.1,(z208.1.1.length : Int),0,())).bind fun y220=>match y220 with
 | .inl _=>some (((0,0,0),()),())
 | .inr z219=>some ((z219.1.1,()),()))
 | .inr z221=>some ((z221.1.1,()),()) else none)
 | .inr z223=>some ((z223.1.1,()),()))
 | .inr z225=>some ((z225.1.1,()),()))
 | .inr z227=>some ((z227.1.1,()),()))
 | .inr z229=>some ((z229.1.1,()),())
def ps132 : List VS := [.val cT]
def rs132 : List VS := [.rc [.sc .bool, .own 3 (.int .i64), .own 278 cP]]
def f132 (x:S6×Unit):Option (((Bool×List Int×List S4×Unit)×Unit)×(Unit)):=
 let s1:=x.1
 bif cN (([] : List Int).length+s1.2.1.length) 17592186044416 then bif cN (([] : List S4).length+s1.2.2.length) 5864062014805 then some (((s1.1,([] : List Int)++s1.2.1,([] : List S4)++s1.2.2,()),()),())
 else none else none
def ps171 : List VS := [.val (.int .i64)]
def rs171 : List VS := [.own 3 (.int .i64)]
def f171 (x:Int×Unit):Option ((List Int×Unit)×(Unit)):=
 some (([x.1],()),())
def ps173 : List VS := [.val (.int .i64)]
def rs173 : List VS := [.val (.int .i64)]
def f173 (x:Int×Unit):Option ((Int×Unit)×(Unit)):=
 let op1:=x.1
 bif beq op1 6 then some ((2,()),()) else bif (beq op1 22)||((beq op1 27)||(beq op1 28)) then some ((3,()),()) else bif beq op1 42 then some ((0,()),()) else some ((1,()),())
def f172_8:Lp (Int×(S6×Unit)×List S4×Int×Int×Unit) (((Int×(S6×Unit)×Unit)⊕(Int×(S6×Unit)×Bool×Unit))):=fun x=>
 let k3:=x.1
 let v4:=x.2.2.1
 let v5:=x.2.2.2.1
 let v6:=x.2.2.2.2.1
 bif blt v6 v5 then bif aE v6 v4.length then bif (v4.getD v6.toNat G0).1&&(blt k3 (v4.getD v6.toNat G0).2.1) then some (.inr (.inr (k3,(x.2.1.1,()),false,())))
 else some (.inl (k3,(x.2.1.1,()),v4,v5,wr (v6+1),())) else none else some (.inr (.inl (k3,(x.2.1.1,()),())))
def ps172 : List VS := [.val (.int .i64), .box 198 [.sc cT] 0]
def rs172 : List VS := [.val .bool]
def f172 (x:Int×(S6×Unit)×Unit):Option ((Bool×Unit)×((S6×Unit)×Unit)):=
 (aA f172_8 (x.1,(x.2.1.1,()),x.2.1.1.2.2,(x.2.1.1.2.2.length : Int),0,())).bind fun y16=>match y16 with
 | .inl z11=>some ((true,()),(z11.2.1.1,()),())
 | .inr z13=>some ((z13.2.2.1,()),(z13.2.1.1,()),())
def sh131_88 : Sh := ⟨[2, 4, 7, 10, 11, 12, 13, 16, 18, 51, 52, 84, 85], [.val (.int .i64), .box 32 [.sc Y5] 0, .box 198 [.sc cT] 0, .box 118 [.sc Y2] 0, .box 198 [.sc .bool, .own 3 (.int .i64), .own 278 cP] 0, .own 3 (.int .i64), .val (.int .i64), .mp, .val (.int .i64), .val Y33, .val (.int .i64), .val Y33, .val (.int .i64)], []⟩
def outs131_88 : List (Ex × Sh) := [((.exit 3), ⟨[2, 4, 7, 10, 11, 12, 16, 18, 51, 52], [.val (.int .i64), .box 32 [.sc Y5] 0, .box 198 [.sc cT] 0, .box 118 [.sc Y2] 0, .box 198 [.sc .bool, .own 3 (.int .i64), .own 278 cP] 0, .own 3 (.int .i64), .mp, .val (.int .i64), .val Y33, .val (.int .i64)], []⟩), (.ret, ⟨[8, 9], [.val (.int .i64), .own 229 Y32], []⟩)]
def f131_88:Lp (Int×(aN×Unit)×(S6×Unit)×(S2×Unit)×(Bool×List Int×List S4×Unit)×List Int×Int×(List (Int×Int))×Int×S28×Int×S28×Int×Unit) (((Int×(aN×Unit)×(S6×Unit)×(S2×Unit)×(Bool×List Int×List S4×Unit)×List Int×(List (Int×Int))×Int×S28×Int×Unit)⊕(Int×List S5×Unit))):=fun x=>
 let A24:=x.1
 let v25:=x.2.2.2.2.2.1
 let v26:=x.2.2.2.2.2.2.1
 let v27:=x.2.2.2.2.2.2.2.1
 let v28:=x.2.2.2.2.2.2.2.2.1
 let v29:=x.2.2.2.2.2.2.2.2.2.1
 let v30:=x.2.2.2.2.2.2.2.2.2.2.1
 let v31:=x.2.2.2.2.2.2.2.2.2.2.2.1
 let v32:=x.2.2.2.2.2.2.2.2.2.2.2.2.1
 bif blt v32 4 then bif aE v32 4 then let v34:=([v31.1,v31.2.1,v31.2.2.1,v31.2.2.2].getD v32.toNat 0)
 (bK ((blt v32 v26)&&((beq v34 4)||((beq v34 5)||(beq v34 6)))) ((f169 (x.2.2.2.1.1,())).bind fun r37=>(bif aE v32 4 then some (beq ([r37.1.1.1,r37.1.1.2.1,r37.1.1.2.2.1,r37.1.1.2.2.2].getD v32.toNat 0) v28) else none)) (some false)).bind fun c38=>
 bif c38 then some (.inr (.inr (10,([] : List S5),())))
 else some (.inl (A24,(x.2.1.1,()),(x.2.2.1.1,()),(x.2.2.2.1.1,()),(x.2.2.2.2.1.1,x.2.2.2.2.1.2.1,x.2.2.2.2.1.2.2.1,()),v25,v26,v27,v28,v29,v30,v31,wr (v32+1),())) else none
 else some (.inr (.inl (A24,(x.2.1.1,()),(x.2.2.1.1,()),(x.2.2.2.1.1,()),(x.2.2.2.2.1.1,x.2.2.2.2.1.2.1,x.2.2.2.2.1.2.2.1,()),v25,v27,v28,v29,v30,())))
def sh131_195 : Sh := ⟨[16, 2, 4, 7, 10, 11, 12, 51, 52], [.mp, .val (.int .i64), .box 32 [.sc Y5] 0, .box 198 [.sc cT] 0, .box 118 [.sc Y2] 0, .box 198 [.sc .bool, .own 3 (.int .i64), .own 278 cP] 0, .own 3 (.int .i64), .val Y33, .val (.int .i64)], []⟩
def outs131_195 : List (Ex × Sh) := [(.normal, ⟨[2, 4, 7, 10, 11, 12, 51, 52], [.val (.int .i64), .box 32 [.sc Y5] 0, .box 198 [.sc cT] 0, .box 118 [.sc Y2] 0, .box 198 [.sc .bool, .own 3 (.int .i64), .own 278 cP] 0, .own 3 (.int .i64), .val Y33, .val (.int .i64)], []⟩), (.ret, ⟨[8, 9], [.val (.int .i64), .own 229 Y32], []⟩)]
noncomputable def kB (ts : List Int) (m : List (Int × Int)) : Option Bool := bif m.all (fun p => aE p.1 (ts.length : Int)) then some (m.all fun p => beq (ts.getD p.1.toNat 0) p.2) else none
def f131_195 (x:(List (Int×Int))×Int×(aN×Unit)×(S6×Unit)×(S2×Unit)×(Bool×List Int×List S4×Unit)×List Int×S28×Int×Unit):Option ((Int×(aN×Unit)×(S6×Unit)×(S2×Unit)×(Bool×List Int×List S4×Unit)×List Int×S28×Int×Unit)⊕(Int×List S5×Unit)):=
 (kB x.2.2.2.2.2.1.2.1 x.1).bind fun b=>bif b then some (.inl x.2) else some (.inr (10,[],()))
def sh131_172 : Sh := ⟨[2, 4, 7, 10, 11, 12, 16, 51, 52, 164, 165, 166], [.val (.int .i64), .box 32 [.sc Y5] 0, .box 198 [.sc cT] 0, .box 118 [.sc Y2] 0, .box 198 [.sc .bool, .own 3 (.int .i64), .own 278 cP] 0, .own 3 (.int .i64), .mp, .val Y33, .val (.int .i64), .val (.row Y0), .val (.int .i64), .val (.int .i64)], []⟩
def outs131_172 : List (Ex × Sh) := [((.exit 5), ⟨[2, 4, 7, 10, 11, 12, 16, 51, 52], [.val (.int .i64), .box 32 [.sc Y5] 0, .box 198 [.sc cT] 0, .box 118 [.sc Y2] 0, .box 198 [.sc .bool, .own 3 (.int .i64), .own 278 cP] 0, .own 3 (.int .i64), .mp, .val Y33, .val (.int .i64)], []⟩), (.ret, ⟨[8, 9], [.val (.int .i64), .own 229 Y32], []⟩)]
def f131_172:Lp (Int×(aN×Unit)×(S6×Unit)×(S2×Unit)×(Bool×List Int×List S4×Unit)×List Int×(List (Int×Int))×S28×Int×List S0×Int×Int×Unit) (((Int×(aN×Unit)×(S6×Unit)×(S2×Unit)×(Bool×List Int×List S4×Unit)×List Int×(List (Int×Int))×S28×Int×Unit)⊕(Int×List S5×Unit))):=fun x=>
 let A147:=x.1
 let v148:=x.2.2.2.2.2.1
 let v149:=x.2.2.2.2.2.2.1
 let v150:=x.2.2.2.2.2.2.2.1
 let v151:=x.2.2.2.2.2.2.2.2.1
 let v152:=x.2.2.2.2.2.2.2.2.2.1
 let v153:=x.2.2.2.2.2.2.2.2.2.2.1
 let v154:=x.2.2.2.2.2.2.2.2.2.2.2.1
 bif blt v154 v153 then bif aE v154 v152.length then (bK (v152.getD v154.toNat U0).1 (bif aE (v152.getD v154.toNat U0).2 x.2.2.2.2.1.2.1.length then some (bne (x.2.2.2.2.1.2.1.getD (v152.getD v154.toNat U0).2.toNat (0 : Int)) 2) else none) (some false)).bind fun c157=>
 bif c157 then some (.inr (.inr (10,([] : List S5),())))
 else some (.inl (A147,(x.2.1.1,()),(x.2.2.1.1,()),(x.2.2.2.1.1,()),(x.2.2.2.2.1.1,x.2.2.2.2.1.2.1,x.2.2.2.2.1.2.2.1,()),v148,v149,v150,v151,v152,v153,wr (v154+1),())) else none
 else some (.inr (.inl (A147,(x.2.1.1,()),(x.2.2.1.1,()),(x.2.2.2.1.1,()),(x.2.2.2.2.1.1,x.2.2.2.2.1.2.1,x.2.2.2.2.1.2.2.1,()),v148,v149,v150,v151,())))
def sh131_20 : Sh := ⟨[2, 4, 7, 10, 11, 12, 51, 52], [.val (.int .i64), .box 32 [.sc Y5] 0, .box 198 [.sc cT] 0, .box 118 [.sc Y2] 0, .box 198 [.sc .bool, .own 3 (.int .i64), .own 278 cP] 0, .own 3 (.int .i64), .val Y33, .val (.int .i64)], []⟩
def outs131_20 : List (Ex × Sh) := [((.exit 0), ⟨[2, 7, 10, 11, 12], [.val (.int .i64), .box 198 [.sc cT] 0, .box 118 [.sc Y2] 0, .box 198 [.sc .bool, .own 3 (.int .i64), .own 278 cP] 0, .own 3 (.int .i64)], []⟩), (.ret, ⟨[8, 9], [.val (.int .i64), .own 229 Y32], []⟩)]
def f131_20:Lp (Int×(aN×Unit)×(S6×Unit)×(S2×Unit)×(Bool×List Int×List S4×Unit)×List Int×S28×Int×Unit) (((Int×(S6×Unit)×(S2×Unit)×(Bool×List Int×List S4×Unit)×List Int×Unit)⊕(Int×List S5×Unit))):=fun x=>
 let A7:=x.1
 let v8:=x.2.2.2.2.2.1
 let v9:=x.2.2.2.2.2.2.1
 let v10:=x.2.2.2.2.2.2.2.1
 bif blt v10 4 then bif aE v10 4 then let v12:=([v9.1,v9.2.1,v9.2.2.1,v9.2.2.2].getD v10.toNat 0)
 (f169 (x.2.2.2.1.1,())).bind fun r13=>bif aE v10 4 then let v14:=([r13.1.1.1,r13.1.1.2.1,r13.1.1.2.2.1,r13.1.1.2.2.2].getD v10.toNat 0)
 bif (beq v12 2)||(beq v12 3) then let v20:=(bif blt v14 0 then wr ((-1 : Int) - v14) else v14)
 bif aE v20 x.2.2.2.2.1.2.1.length then bif bne (x.2.2.2.2.1.2.1.getD v20.toNat (0 : Int)) (bif beq v12 3 then (3 : Int) else (1 : Int)) then some (.inr (.inr (10,([] : List S5),())))
 else bif blt v14 0 then (aA f131_88 (A7,(x.2.1.1,()),(x.2.2.1.1,()),(x.2.2.2.1.1,()),(x.2.2.2.2.1.1,x.2.2.2.2.1.2.1,x.2.2.2.2.1.2.2.1,()),v8,v10,[],v20,v9,v10,((aQ bB x.2.2.2.1.1.1).getD 0 0,(aQ bB x.2.2.2.1.1.1).getD 1 0,(aQ bB x.2.2.2.1.1.1).getD 2 0,(aQ bB x.2.2.2.1.1.1).getD 3 0),0,())).bind fun y63=>match y63 with
 | .inl z40=>(
 let v42:=z40.2.2.2.2.2.1
 let v44:=z40.2.2.2.2.2.2.2.1
 bif aE v44 z40.2.2.2.2.1.2.1.length then bif cN (v42.length+([v44]).length) 17592186044416 then (f131_195 (z40.2.2.2.2.2.2.1,z40.1,(z40.2.1.1,()),(z40.2.2.1.1,()),(z40.2.2.2.1.1,()),(z40.2.2.2.2.1.1,z40.2.2.2.2.1.2.1.set v44.toNat (0 : Int),z40.2.2.2.2.1.2.2.1,()),v42++([v44]),z40.2.2.2.2.2.2.2.2.1,z40.2.2.2.2.2.2.2.2.2.1,())).bind fun y52=>match y52 with
 | .inl z50=>some (.inl (z50.1,(z50.2.1.1,()),(z50.2.2.1.1,()),(z50.2.2.2.1.1,()),(z50.2.2.2.2.1.1,z50.2.2.2.2.1.2.1,z50.2.2.2.2.1.2.2.1,()),z50.2.2.2.2.2.1,z50.2.2.2.2.2.2.1,wr (z50.2.2.2.2.2.2.2.1+1),()))
 | .inr z51=>some (.inr (.inr (z51.1,z51.2.1,()))) else none else none)
 | .inr z60=>some (.inr (.inr (z60.1,z60.2.1,())))
 else (f131_195 ([],A7,(x.2.1.1,()),(x.2.2.1.1,()),(x.2.2.2.1.1,()),(x.2.2.2.2.1.1,x.2.2.2.2.1.2.1,x.2.2.2.2.1.2.2.1,()),v8,v9,v10,())).bind fun y66=>match y66 with
 | .inl z64=>some (.inl (z64.1,(z64.2.1.1,()),(z64.2.2.1.1,()),(z64.2.2.2.1.1,()),(z64.2.2.2.2.1.1,z64.2.2.2.2.1.2.1,z64.2.2.2.2.1.2.2.1,()),z64.2.2.2.2.2.1,z64.2.2.2.2.2.2.1,wr (z64.2.2.2.2.2.2.2.1+1),()))
 | .inr z65=>some (.inr (.inr (z65.1,z65.2.1,()))) else none
 else bif beq v12 4 then (f131_195 (dN [] v14 (1 : Int),A7,(x.2.1.1,()),(x.2.2.1.1,()),(x.2.2.2.1.1,()),(x.2.2.2.2.1.1,x.2.2.2.2.1.2.1,x.2.2.2.2.1.2.2.1,()),v8,v9,v10,())).bind fun y77=>match y77 with
 | .inl z75=>some (.inl (z75.1,(z75.2.1.1,()),(z75.2.2.1.1,()),(z75.2.2.2.1.1,()),(z75.2.2.2.2.1.1,z75.2.2.2.2.1.2.1,z75.2.2.2.2.1.2.2.1,()),z75.2.2.2.2.2.1,z75.2.2.2.2.2.2.1,wr (z75.2.2.2.2.2.2.2.1+1),()))
 | .inr z76=>some (.inr (.inr (z76.1,z76.2.1,())))
 else bif beq v12 5 then (f131_195 (dN [] v14 (2 : Int),A7,(x.2.1.1,()),(x.2.2.1.1,()),(x.2.2.2.1.1,()),(x.2.2.2.2.1.1,x.2.2.2.2.1.2.1,x.2.2.2.2.1.2.2.1,()),v8,v9,v10,())).bind fun y88=>match y88 with
 | .inl z86=>some (.inl (z86.1,(z86.2.1.1,()),(z86.2.2.1.1,()),(z86.2.2.2.1.1,()),(z86.2.2.2.2.1.1,z86.2.2.2.2.1.2.1,z86.2.2.2.2.1.2.2.1,()),z86.2.2.2.2.2.1,z86.2.2.2.2.2.2.1,wr (z86.2.2.2.2.2.2.2.1+1),()))
 | .inr z87=>some (.inr (.inr (z87.1,z87.2.1,())))
 else bif beq v12 6 then (f131_195 (dN [] v14 (3 : Int),A7,(x.2.1.1,()),(x.2.2.1.1,()),(x.2.2.2.1.1,()),(x.2.2.2.2.1.1,x.2.2.2.2.1.2.1,x.2.2.2.2.1.2.2.1,()),v8,v9,v10,())).bind fun y99=>match y99 with
 | .inl z97=>some (.inl (z97.1,(z97.2.1.1,()),(z97.2.2.1.1,()),(z97.2.2.2.1.1,()),(z97.2.2.2.2.1.1,z97.2.2.2.2.1.2.1,z97.2.2.2.2.1.2.2.1,()),z97.2.2.2.2.2.1,z97.2.2.2.2.2.2.1,wr (z97.2.2.2.2.2.2.2.1+1),()))
 | .inr z98=>some (.inr (.inr (z98.1,z98.2.1,())))
 else bif beq v12 18 then (f131_195 (dN (dN (dN [] v14 (1 : Int)) (wr (v14+1)) (1 : Int)) (wr (v14+2)) (1 : Int),A7,(x.2.1.1,()),(x.2.2.1.1,()),(x.2.2.2.1.1,()),(x.2.2.2.2.1.1,x.2.2.2.2.1.2.1,x.2.2.2.2.1.2.2.1,()),v8,v9,v10,())).bind fun y112=>match y112 with
 | .inl z110=>some (.inl (z110.1,(z110.2.1.1,()),(z110.2.2.1.1,()),(z110.2.2.2.1.1,()),(z110.2.2.2.2.1.1,z110.2.2.2.2.1.2.1,z110.2.2.2.2.1.2.2.1,()),z110.2.2.2.2.2.1,z110.2.2.2.2.2.2.1,wr (z110.2.2.2.2.2.2.2.1+1),()))
 | .inr z111=>some (.inr (.inr (z111.1,z111.2.1,())))
 else bif beq v12 19 then (f131_195 (dN (dN [] v14 (1 : Int)) (wr (v14+1)) (0 : Int),A7,(x.2.1.1,()),(x.2.2.1.1,()),(x.2.2.2.1.1,()),(x.2.2.2.2.1.1,x.2.2.2.2.1.2.1,x.2.2.2.2.1.2.2.1,()),v8,v9,v10,())).bind fun y124=>match y124 with
 | .inl z122=>some (.inl (z122.1,(z122.2.1.1,()),(z122.2.2.1.1,()),(z122.2.2.2.1.1,()),(z122.2.2.2.2.1.1,z122.2.2.2.2.1.2.1,z122.2.2.2.2.1.2.2.1,()),z122.2.2.2.2.2.1,z122.2.2.2.2.2.2.1,wr (z122.2.2.2.2.2.2.2.1+1),()))
 | .inr z123=>some (.inr (.inr (z123.1,z123.2.1,())))
 else bif beq v12 20 then (f131_195 (dN (dN [] v14 (1 : Int)) (wr (v14+1)) (1 : Int),A7,(x.2.1.1,()),(x.2.2.1.1,()),(x.2.2.2.1.1,()),(x.2.2.2.2.1.1,x.2.2.2.2.1.2.1,x.2.2.2.2.1.2.2.1,()),v8,v9,v10,())).bind fun y136=>match y136 with
 | .inl z134=>some (.inl (z134.1,(z134.2.1.1,()),(z134.2.2.1.1,()),(z134.2.2.2.1.1,()),(z134.2.2.2.2.1.1,z134.2.2.2.2.1.2.1,z134.2.2.2.2.1.2.2.1,()),z134.2.2.2.2.2.1,z134.2.2.2.2.2.2.1,wr (z134.2.2.2.2.2.2.2.1+1),()))
 | .inr z135=>some (.inr (.inr (z135.1,z135.2.1,())))
 else bif beq v12 11 then bif aE v14 x.2.1.1.length then let v145:=(x.2.1.1.getD v14.toNat P0).2.2.2.2.2.1
 (aA f131_172 (A7,(x.2.1.1,()),(x.2.2.1.1,()),(x.2.2.2.1.1,()),(x.2.2.2.2.1.1,x.2.2.2.2.1.2.1,x.2.2.2.2.1.2.2.1,()),v8,[],v9,v10,v145,(v145.length : Int),0,())).bind fun y178=>match y178 with
 | .inl z159=>(
 (f131_195 (z159.2.2.2.2.2.2.1,z159.1,(z159.2.1.1,()),(z159.2.2.1.1,()),(z159.2.2.2.1.1,()),(z159.2.2.2.2.1.1,z159.2.2.2.2.1.2.1,z159.2.2.2.2.1.2.2.1,()),z159.2.2.2.2.2.1,z159.2.2.2.2.2.2.2.1,z159.2.2.2.2.2.2.2.2.1,())).bind fun y167=>match y167 with
 | .inl z165=>some (.inl (z165.1,(z165.2.1.1,()),(z165.2.2.1.1,()),(z165.2.2.2.1.1,()),(z165.2.2.2.2.1.1,z165.2.2.2.2.1.2.1,z165.2.2.2.2.1.2.2.1,()),z165.2.2.2.2.2.1,z165.2.2.2.2.2.2.1,wr (z165.2.2.2.2.2.2.2.1+1),()))
 | .inr z166=>some (.inr (.inr (z166.1,z166.2.1,()))))
 | .inr z175=>some (.inr (.inr (z175.1,z175.2.1,()))) else none
 else (f131_195 ([],A7,(x.2.1.1,()),(x.2.2.1.1,()),(x.2.2.2.1.1,()),(x.2.2.2.2.1.1,x.2.2.2.2.1.2.1,x.2.2.2.2.1.2.2.1,()),v8,v9,v10,())).bind fun y181=>match y181 with
 | .inl z179=>some (.inl (z179.1,(z179.2.1.1,()),(z179.2.2.1.1,()),(z179.2.2.2.1.1,()),(z179.2.2.2.2.1.1,z179.2.2.2.2.1.2.1,z179.2.2.2.2.1.2.2.1,()),z179.2.2.2.2.2.1,z179.2.2.2.2.2.2.1,wr (z179.2.2.2.2.2.2.2.1+1),()))
 | .inr z180=>some (.inr (.inr (z180.1,z180.2.1,()))) else none else none
 else some (.inr (.inl (A7,(x.2.2.1.1,()),(x.2.2.2.1.1,()),(x.2.2.2.2.1.1,x.2.2.2.2.1.2.1,x.2.2.2.2.1.2.2.1,()),v8,())))
def sh131_221 : Sh := ⟨[2, 7, 10, 11, 12, 199], [.val (.int .i64), .box 198 [.sc cT] 0, .box 118 [.sc Y2] 0, .box 198 [.sc .bool, .own 3 (.int .i64), .own 278 cP] 0, .own 3 (.int .i64), .val .bool], []⟩
def outs131_221 : List (Ex × Sh) := [(.normal, ⟨[2, 7, 10, 11, 12], [.val (.int .i64), .box 198 [.sc cT] 0, .box 118 [.sc Y2] 0, .box 198 [.sc .bool, .own 3 (.int .i64), .own 278 cP] 0, .own 3 (.int .i64)], []⟩)]
def f131_221 (x:Int×(S6×Unit)×(S2×Unit)×(Bool×List Int×List S4×Unit)×List Int×Bool×Unit):Option (Int×(S6×Unit)×(S2×Unit)×(Bool×List Int×List S4×Unit)×List Int×Unit):=
 let A193:=x.1
 let v194:=x.2.2.2.2.1
 bif x.2.2.2.2.2.1 then (f171 (x.2.2.1.1.2.1,())).bind fun r196=>
 bif cN (v194.length+r196.1.1.length) 17592186044416 then some (A193,(x.2.1.1,()),(x.2.2.1.1,()),(x.2.2.2.1.1,x.2.2.2.1.2.1,x.2.2.2.1.2.2.1,()),v194++r196.1.1,()) else none
 else some (A193,(x.2.1.1,()),(x.2.2.1.1,()),(x.2.2.2.1.1,x.2.2.2.1.2.1,x.2.2.2.1.2.2.1,()),v194,())
def sh131_237 : Sh := ⟨[2, 7, 10, 11, 12, 25, 26, 210], [.val (.int .i64), .box 198 [.sc cT] 0, .box 118 [.sc Y2] 0, .box 198 [.sc .bool, .own 3 (.int .i64), .own 278 cP] 0, .own 3 (.int .i64), .box 278 [.sc cP] 0, .val (.int .i64), .val .bool], []⟩
def outs131_237 : List (Ex × Sh) := [(.normal, ⟨[2, 7, 10, 11, 12, 25], [.val (.int .i64), .box 198 [.sc cT] 0, .box 118 [.sc Y2] 0, .box 198 [.sc .bool, .own 3 (.int .i64), .own 278 cP] 0, .own 3 (.int .i64), .box 278 [.sc cP] 0], []⟩)]
def f131_237 (x:Int×(S6×Unit)×(S2×Unit)×(Bool×List Int×List S4×Unit)×List Int×(S4×Unit)×Int×Bool×Unit):Option (Int×(S6×Unit)×(S2×Unit)×(Bool×List Int×List S4×Unit)×List Int×(S4×Unit)×Unit):=
 let A203:=x.1
 let v204:=x.2.2.2.2.1
 bif x.2.2.2.2.2.2.2.1 then let v207:=(wr (x.2.2.2.2.2.2.1 - 1))
 bif aE v207 x.2.1.1.2.2.length then some (A203,(x.2.1.1,()),(x.2.2.1.1,()),(x.2.2.2.1.1,x.2.2.2.1.2.1,x.2.2.2.1.2.2.1,()),v204,(x.2.1.1.2.2.getD v207.toNat G0,()),()) else none
 else some (A203,(x.2.1.1,()),(x.2.2.1.1,()),(x.2.2.2.1.1,x.2.2.2.1.2.1,x.2.2.2.1.2.2.1,()),v204,(x.2.2.2.2.2.1.1,()),())
def sh131_257 : Sh := ⟨[2, 7, 10, 11, 12, 25, 27, 223, 224], [.val (.int .i64), .box 198 [.sc cT] 0, .box 118 [.sc Y2] 0, .box 198 [.sc .bool, .own 3 (.int .i64), .own 278 cP] 0, .own 3 (.int .i64), .box 278 [.sc cP] 0, .val .bool, .val (.int .i64), .val .bool], [(28, .clo 172 [7])]⟩
def outs131_257 : List (Ex × Sh) := [(.normal, ⟨[2, 7, 10, 11, 12], [.val (.int .i64), .box 198 [.sc cT] 0, .box 118 [.sc Y2] 0, .box 198 [.sc .bool, .own 3 (.int .i64), .own 278 cP] 0, .own 3 (.int .i64)], [(28, .clo 172 [7])]⟩), (.ret, ⟨[8, 9], [.val (.int .i64), .own 229 Y32], []⟩)]
def f131_257 (x:Int×(S6×Unit)×(S2×Unit)×(Bool×List Int×List S4×Unit)×List Int×(S4×Unit)×Bool×Int×Bool×Unit):Option ((Int×(S6×Unit)×(S2×Unit)×(Bool×List Int×List S4×Unit)×List Int×Unit)⊕(Int×List S5×Unit)):=
 let A214:=x.1
 let v215:=x.2.2.2.2.1
 let v216:=x.2.2.2.2.2.2.1
 let v217:=x.2.2.2.2.2.2.2.1
 bif x.2.2.2.2.2.2.2.2.1 then bif (!v216)||(!x.2.2.2.2.2.1.1.1) then some (.inr (11,([] : List S5),()))
 else some (.inl (A214,(x.2.1.1,()),(x.2.2.1.1,()),(x.2.2.2.1.1,x.2.2.2.1.2.1,x.2.2.2.1.2.2.1,()),v215,()))
 else bif (beq v217 34)||((beq v217 35)||(beq v217 36)) then bif (!v216)||x.2.2.2.2.2.1.1.1 then some (.inr (11,([] : List S5),()))
 else some (.inl (A214,(x.2.1.1,()),(x.2.2.1.1,()),(x.2.2.2.1.1,x.2.2.2.1.2.1,x.2.2.2.1.2.2.1,()),v215,()))
 else bif (beq v217 31)||(beq v217 33) then bif ble 50 x.2.1.1.2.2.length then some (.inr (11,([] : List S5),()))
 else some (.inl (A214,(x.2.1.1,()),(x.2.2.1.1,()),(x.2.2.2.1.1,x.2.2.2.1.2.1,x.2.2.2.1.2.2.1,()),v215,()))
 else some (.inl (A214,(x.2.1.1,()),(x.2.2.1.1,()),(x.2.2.2.1.1,x.2.2.2.1.2.1,x.2.2.2.1.2.2.1,()),v215,()))
def sh131_302 : Sh := ⟨[2, 7, 10, 11, 12], [.val (.int .i64), .box 198 [.sc cT] 0, .box 118 [.sc Y2] 0, .box 198 [.sc .bool, .own 3 (.int .i64), .own 278 cP] 0, .own 3 (.int .i64)], [(28, .clo 172 [7])]⟩
def outs131_302 : List (Ex × Sh) := [(.normal, ⟨[2, 7, 10, 11, 12, 278], [.val (.int .i64), .box 198 [.sc cT] 0, .box 118 [.sc Y2] 0, .box 198 [.sc .bool, .own 3 (.int .i64), .own 278 cP] 0, .own 3 (.int .i64), .val .bool], []⟩)]
def f131_302 (x:Int×(S6×Unit)×(S2×Unit)×(Bool×List Int×List S4×Unit)×List Int×Unit):Option (Int×(S6×Unit)×(S2×Unit)×(Bool×List Int×List S4×Unit)×List Int×Bool×Unit):=
 let A232:=x.1
 let v233:=x.2.2.2.2.1
 bif (beq x.2.2.1.1.1 33)||(beq x.2.2.1.1.1 34) then (f172 (x.2.2.1.1.2.1,(x.2.1.1,()),())).bind fun r236=>
 bif !r236.1.1 then some (A232,(r236.2.1.1,()),(x.2.2.1.1,()),(x.2.2.2.1.1,x.2.2.2.1.2.1,x.2.2.2.1.2.2.1,()),v233,true,())
 else bif beq x.2.2.1.1.1 31 then (f172 (x.2.2.1.1.2.2.1,(r236.2.1.1,()),())).bind fun r239=>
 some (A232,(r239.2.1.1,()),(x.2.2.1.1,()),(x.2.2.2.1.1,x.2.2.2.1.2.1,x.2.2.2.1.2.2.1,()),v233,!r239.1.1,())
 else some (A232,(r236.2.1.1,()),(x.2.2.1.1,()),(x.2.2.2.1.1,x.2.2.2.1.2.1,x.2.2.2.1.2.2.1,()),v233,false,())
 else bif beq x.2.2.1.1.1 31 then (f172 (x.2.2.1.1.2.2.1,(x.2.1.1,()),())).bind fun r242=>
 some (A232,(r242.2.1.1,()),(x.2.2.1.1,()),(x.2.2.2.1.1,x.2.2.2.1.2.1,x.2.2.2.1.2.2.1,()),v233,!r242.1.1,())
 else some (A232,(x.2.1.1,()),(x.2.2.1.1,()),(x.2.2.2.1.1,x.2.2.2.1.2.1,x.2.2.2.1.2.2.1,()),v233,false,())
def sh131_316 : Sh := ⟨[2, 7, 10, 11, 12, 29, 284, 285], [.val (.int .i64), .box 198 [.sc cT] 0, .box 118 [.sc Y2] 0, .box 198 [.sc .bool, .own 3 (.int .i64), .own 278 cP] 0, .own 3 (.int .i64), .box 198 [.sc .bool, .own 3 (.int .i64), .own 278 cP] 0, .val Y33, .val (.int .i64)], []⟩
def outs131_316 : List (Ex × Sh) := [((.exit 10), ⟨[2, 7, 10, 11, 12, 29], [.val (.int .i64), .box 198 [.sc cT] 0, .box 118 [.sc Y2] 0, .box 198 [.sc .bool, .own 3 (.int .i64), .own 278 cP] 0, .own 3 (.int .i64), .box 198 [.sc .bool, .own 3 (.int .i64), .own 278 cP] 0], []⟩)]
def f131_316:Lp (Int×(S6×Unit)×(S2×Unit)×(Bool×List Int×List S4×Unit)×List Int×(Bool×List Int×List S4×Unit)×S28×Int×Unit) ((Int×(S6×Unit)×(S2×Unit)×(Bool×List Int×List S4×Unit)×List Int×(Bool×List Int×List S4×Unit)×Unit)):=fun x=>
 let A249:=x.1
 let v250:=x.2.2.2.2.1
 let v251:=x.2.2.2.2.2.2.1
 let v252:=x.2.2.2.2.2.2.2.1
 bif blt v252 4 then bif aE v252 4 then bif beq ([v251.1,v251.2.1,v251.2.2.1,v251.2.2.2].getD v252.toNat 0) 1 then (f169 (x.2.2.1.1,())).bind fun r256=>
 bif aE v252 4 then let v257:=([r256.1.1.1,r256.1.1.2.1,r256.1.1.2.2.1,r256.1.1.2.2.2].getD v252.toNat 0)
 (f173 (x.2.2.1.1.1,())).bind fun r258=>bif aE v257 x.2.2.2.1.2.1.length then let row259:=(x.2.2.2.1.2.1.set v257.toNat r258.1.1)
 bif beq x.2.2.1.1.1 41 then (f169 (x.2.2.1.1,())).bind fun r261=>bif aE v252 4 then let v262:=([r261.1.1.1,r261.1.1.2.1,r261.1.1.2.2.1,r261.1.1.2.2.2].getD v252.toNat 0)
 bif aE v262 row259.length then some (.inl (A249,(x.2.1.1,()),(x.2.2.1.1,()),(x.2.2.2.1.1,row259.set v262.toNat (3 : Int),x.2.2.2.1.2.2.1,()),v250,(x.2.2.2.2.2.1.1,x.2.2.2.2.2.1.2.1,x.2.2.2.2.2.1.2.2.1,()),v251,wr (v252+1),()))
 else none else none
 else some (.inl (A249,(x.2.1.1,()),(x.2.2.1.1,()),(x.2.2.2.1.1,row259,x.2.2.2.1.2.2.1,()),v250,(x.2.2.2.2.2.1.1,x.2.2.2.2.2.1.2.1,x.2.2.2.2.2.1.2.2.1,()),v251,wr (v252+1),()))
 else none else none
 else some (.inl (A249,(x.2.1.1,()),(x.2.2.1.1,()),(x.2.2.2.1.1,x.2.2.2.1.2.1,x.2.2.2.1.2.2.1,()),v250,(x.2.2.2.2.2.1.1,x.2.2.2.2.2.1.2.1,x.2.2.2.2.2.1.2.2.1,()),v251,wr (v252+1),()))
 else none else some (.inr (A249,(x.2.1.1,()),(x.2.2.1.1,()),(x.2.2.2.1.1,x.2.2.2.1.2.1,x.2.2.2.1.2.2.1,()),v250,(x.2.2.2.2.2.1.1,x.2.2.2.2.2.1.2.1,x.2.2.2.2.2.1.2.2.1,()),()))
def sh131_349 : Sh := ⟨[2, 7, 10, 11, 12, 29, 314], [.val (.int .i64), .box 198 [.sc cT] 0, .box 118 [.sc Y2] 0, .box 198 [.sc .bool, .own 3 (.int .i64), .own 278 cP] 0, .own 3 (.int .i64), .box 198 [.sc .bool, .own 3 (.int .i64), .own 278 cP] 0, .val .bool], []⟩
def outs131_349 : List (Ex × Sh) := [(.normal, ⟨[2, 7, 10, 11, 12, 29], [.val (.int .i64), .box 198 [.sc cT] 0, .box 118 [.sc Y2] 0, .box 198 [.sc .bool, .own 3 (.int .i64), .own 278 cP] 0, .own 3 (.int .i64), .box 198 [.sc .bool, .own 3 (.int .i64), .own 278 cP] 0], []⟩)]
def f131_349 (x:Int×(S6×Unit)×(S2×Unit)×(Bool×List Int×List S4×Unit)×List Int×(Bool×List Int×List S4×Unit)×Bool×Unit):Option (Int×(S6×Unit)×(S2×Unit)×(Bool×List Int×List S4×Unit)×List Int×(Bool×List Int×List S4×Unit)×Unit):=
 let A271:=x.1
 let v272:=x.2.2.2.2.1
 bif x.2.2.2.2.2.2.1 then let v274:=(wr (x.2.2.1.1.2.1+1))
 bif aE v274 x.2.2.2.1.2.1.length then some (A271,(x.2.1.1,()),(x.2.2.1.1,()),(x.2.2.2.1.1,x.2.2.2.1.2.1.set v274.toNat (1 : Int),x.2.2.2.1.2.2.1,()),v272,(x.2.2.2.2.2.1.1,x.2.2.2.2.2.1.2.1,x.2.2.2.2.2.1.2.2.1,()),())
 else none else some (A271,(x.2.1.1,()),(x.2.2.1.1,()),(x.2.2.2.1.1,x.2.2.2.1.2.1,x.2.2.2.1.2.2.1,()),v272,(x.2.2.2.2.2.1.1,x.2.2.2.2.2.1.2.1,x.2.2.2.2.2.1.2.2.1,()),())
def sh131_372 : Sh := ⟨[2, 7, 10, 11, 12, 29, 33, 322, 323, 324, 332, 333], [.val (.int .i64), .box 198 [.sc cT] 0, .box 118 [.sc Y2] 0, .box 198 [.sc .bool, .own 3 (.int .i64), .own 278 cP] 0, .own 3 (.int .i64), .box 198 [.sc .bool, .own 3 (.int .i64), .own 278 cP] 0, .box 278 [.sc cP] 0, .val (.row cP), .val (.int .i64), .val (.int .i64), .val (.int .i64), .val (.int .i64)], [(331, .same 12)]⟩
def outs131_372 : List (Ex × Sh) := [((.exit 14), ⟨[2, 7, 10, 11, 12, 29, 33, 322, 323, 324], [.val (.int .i64), .box 198 [.sc cT] 0, .box 118 [.sc Y2] 0, .box 198 [.sc .bool, .own 3 (.int .i64), .own 278 cP] 0, .own 3 (.int .i64), .box 198 [.sc .bool, .own 3 (.int .i64), .own 278 cP] 0, .box 278 [.sc cP] 0, .val (.row cP), .val (.int .i64), .val (.int .i64)], []⟩), (.ret, ⟨[8, 9], [.val (.int .i64), .own 229 Y32], []⟩)]
def f131_372:Lp (Int×(S6×Unit)×(S2×Unit)×(Bool×List Int×List S4×Unit)×List Int×(Bool×List Int×List S4×Unit)×(S4×Unit)×List S4×Int×Int×Int×Int×Unit) (((Int×(S6×Unit)×(S2×Unit)×(Bool×List Int×List S4×Unit)×List Int×(Bool×List Int×List S4×Unit)×(S4×Unit)×List S4×Int×Int×Unit)⊕(Int×List S5×Unit))):=fun x=>
 let A290:=x.1
 let v291:=x.2.2.2.2.1
 let v292:=x.2.2.2.2.2.2.2.1
 let v293:=x.2.2.2.2.2.2.2.2.1
 let v294:=x.2.2.2.2.2.2.2.2.2.1
 let v295:=x.2.2.2.2.2.2.2.2.2.2.1
 let v296:=x.2.2.2.2.2.2.2.2.2.2.2.1
 bif blt v296 v295 then bif aE v296 v291.length then bif blt (v291.getD v296.toNat (0 : Int)) x.2.2.2.2.2.2.1.1.2.1 then some (.inr (.inr (12,([] : List S5),())))
 else some (.inl (A290,(x.2.1.1,()),(x.2.2.1.1,()),(x.2.2.2.1.1,x.2.2.2.1.2.1,x.2.2.2.1.2.2.1,()),v291,(x.2.2.2.2.2.1.1,x.2.2.2.2.2.1.2.1,x.2.2.2.2.2.1.2.2.1,()),(x.2.2.2.2.2.2.1.1,()),v292,v293,v294,v295,wr (v296+1),()))
 else none
 else some (.inr (.inl (A290,(x.2.1.1,()),(x.2.2.1.1,()),(x.2.2.2.1.1,x.2.2.2.1.2.1,x.2.2.2.1.2.2.1,()),v291,(x.2.2.2.2.2.1.1,x.2.2.2.2.2.1.2.1,x.2.2.2.2.2.1.2.2.1,()),(x.2.2.2.2.2.2.1.1,()),v292,v293,v294,())))
def sh131_396 : Sh := ⟨[2, 7, 10, 11, 12, 29, 322, 323, 324, 343, 344], [.val (.int .i64), .box 198 [.sc cT] 0, .box 118 [.sc Y2] 0, .box 198 [.sc .bool, .own 3 (.int .i64), .own 278 cP] 0, .own 3 (.int .i64), .box 198 [.sc .bool, .own 3 (.int .i64), .own 278 cP] 0, .val (.row cP), .val (.int .i64), .val (.int .i64), .val (.int .i64), .val (.int .i64)], []⟩
def outs131_396 : List (Ex × Sh) := [((.exit 16), ⟨[2, 7, 10, 11, 12, 29, 322, 323, 324], [.val (.int .i64), .box 198 [.sc cT] 0, .box 118 [.sc Y2] 0, .box 198 [.sc .bool, .own 3 (.int .i64), .own 278 cP] 0, .own 3 (.int .i64), .box 198 [.sc .bool, .own 3 (.int .i64), .own 278 cP] 0, .val (.row cP), .val (.int .i64), .val (.int .i64)], []⟩), (.ret, ⟨[8, 9], [.val (.int .i64), .own 229 Y32], []⟩)]
def f131_396:Lp (Int×(S6×Unit)×(S2×Unit)×(Bool×List Int×List S4×Unit)×List Int×(Bool×List Int×List S4×Unit)×List S4×Int×Int×Int×Int×Unit) (((Int×(S6×Unit)×(S2×Unit)×(Bool×List Int×List S4×Unit)×List Int×(Bool×List Int×List S4×Unit)×List S4×Int×Int×Unit)⊕(Int×List S5×Unit))):=fun x=>
 let A307:=x.1
 let v308:=x.2.2.2.2.1
 let v309:=x.2.2.2.2.2.2.1
 let v310:=x.2.2.2.2.2.2.2.1
 let v311:=x.2.2.2.2.2.2.2.2.1
 let v312:=x.2.2.2.2.2.2.2.2.2.1
 let v313:=x.2.2.2.2.2.2.2.2.2.2.1
 bif blt v313 v312 then bif aE v313 x.2.2.2.1.2.1.length then bif aE v313 x.2.1.1.2.1.length then bif bne (x.2.2.2.1.2.1.getD v313.toNat (0 : Int)) (x.2.1.1.2.1.getD v313.toNat (0 : Int)) then some (.inr (.inr (12,([] : List S5),())))
 else some (.inl (A307,(x.2.1.1,()),(x.2.2.1.1,()),(x.2.2.2.1.1,x.2.2.2.1.2.1,x.2.2.2.1.2.2.1,()),v308,(x.2.2.2.2.2.1.1,x.2.2.2.2.2.1.2.1,x.2.2.2.2.2.1.2.2.1,()),v309,v310,v311,v312,wr (v313+1),()))
 else none else none
 else some (.inr (.inl (A307,(x.2.1.1,()),(x.2.2.1.1,()),(x.2.2.2.1.1,x.2.2.2.1.2.1,x.2.2.2.1.2.2.1,()),v308,(x.2.2.2.2.2.1.1,x.2.2.2.2.2.1.2.1,x.2.2.2.2.2.1.2.2.1,()),v309,v310,v311,())))
def sh131_356 : Sh := ⟨[2, 7, 10, 11, 12, 29, 322, 323, 324], [.val (.int .i64), .box 198 [.sc cT] 0, .box 118 [.sc Y2] 0, .box 198 [.sc .bool, .own 3 (.int .i64), .own 278 cP] 0, .own 3 (.int .i64), .box 198 [.sc .bool, .own 3 (.int .i64), .own 278 cP] 0, .val (.row cP), .val (.int .i64), .val (.int .i64)], []⟩
def outs131_356 : List (Ex × Sh) := [((.exit 12), ⟨[2, 7, 10, 11, 29], [.val (.int .i64), .box 198 [.sc cT] 0, .box 118 [.sc Y2] 0, .box 198 [.sc .bool, .own 3 (.int .i64), .own 278 cP] 0, .box 198 [.sc .bool, .own 3 (.int .i64), .own 278 cP] 0], []⟩), (.ret, ⟨[8, 9], [.val (.int .i64), .own 229 Y32], []⟩)]
def f131_356:Lp (Int×(S6×Unit)×(S2×Unit)×(Bool×List Int×List S4×Unit)×List Int×(Bool×List Int×List S4×Unit)×List S4×Int×Int×Unit) (((Int×(S6×Unit)×(S2×Unit)×(Bool×List Int×List S4×Unit)×(Bool×List Int×List S4×Unit)×Unit)⊕(Int×List S5×Unit))):=fun x=>
 let A280:=x.1
 let v281:=x.2.2.2.2.1
 let v282:=x.2.2.2.2.2.2.1
 let v283:=x.2.2.2.2.2.2.2.1
 let v284:=x.2.2.2.2.2.2.2.2.1
 bif blt v284 v283 then bif aE v284 v282.length then bif !(v282.getD v284.toNat G0).1 then some (.inl (A280,(x.2.1.1,()),(x.2.2.1.1,()),(x.2.2.2.1.1,x.2.2.2.1.2.1,x.2.2.2.1.2.2.1,()),v281,(x.2.2.2.2.2.1.1,x.2.2.2.2.2.1.2.1,x.2.2.2.2.2.1.2.2.1,()),v282,v283,wr (v284+1),()))
 else (aA f131_372 (A280,(x.2.1.1,()),(x.2.2.1.1,()),(x.2.2.2.1.1,x.2.2.2.1.2.1,x.2.2.2.1.2.2.1,()),v281,(x.2.2.2.2.2.1.1,x.2.2.2.2.2.1.2.1,x.2.2.2.2.2.1.2.2.1,()),(v282.getD v284.toNat G0,()),v282,v283,v284,(v281.length : Int),0,())).bind fun y333=>match y333 with
 | .inl z301=>(
 (aA f131_396 (z301.1,(z301.2.1.1,()),(z301.2.2.1.1,()),(z301.2.2.2.1.1,z301.2.2.2.1.2.1,z301.2.2.2.1.2.2.1,()),z301.2.2.2.2.1,(z301.2.2.2.2.2.1.1,z301.2.2.2.2.2.1.2.1,z301.2.2.2.2.2.1.2.2.1,()),z301.2.2.2.2.2.2.2.1,z301.2.2.2.2.2.2.2.2.1,z301.2.2.2.2.2.2.2.2.2.1,z301.2.2.2.2.2.2.1.1.2.1,0,())).bind fun y329=>match y329 with
 | .inl z319=>some (.inl (z319.1,(z319.2.1.1,()),(z319.2.2.1.1,()),(z319.2.2.2.1.1,z319.2.2.2.1.2.1,z319.2.2.2.1.2.2.1,()),z319.2.2.2.2.1,(z319.2.2.2.2.2.1.1,z319.2.2.2.2.2.1.2.1,z319.2.2.2.2.2.1.2.2.1,()),z319.2.2.2.2.2.2.1,z319.2.2.2.2.2.2.2.1,wr (z319.2.2.2.2.2.2.2.2.1+1),()))
 | .inr z326=>some (.inr (.inr (z326.1,z326.2.1,()))))
 | .inr z330=>some (.inr (.inr (z330.1,z330.2.1,()))) else none
 else some (.inr (.inl (A280,(x.2.1.1,()),(x.2.2.1.1,()),(x.2.2.2.1.1,x.2.2.2.1.2.1,x.2.2.2.1.2.2.1,()),(x.2.2.2.2.2.1.1,x.2.2.2.2.2.1.2.1,x.2.2.2.2.2.1.2.2.1,()),())))
def sh131_437 : Sh := ⟨[2, 7, 10, 11, 29, 37, 365, 366], [.val (.int .i64), .box 198 [.sc cT] 0, .box 118 [.sc Y2] 0, .box 198 [.sc .bool, .own 3 (.int .i64), .own 278 cP] 0, .box 198 [.sc .bool, .own 3 (.int .i64), .own 278 cP] 0, .val (.int .i64), .val (.int .i64), .val .bool], []⟩
def outs131_437 : List (Ex × Sh) := [(.normal, ⟨[2, 7, 10, 11, 29], [.val (.int .i64), .box 198 [.sc cT] 0, .box 118 [.sc Y2] 0, .box 198 [.sc .bool, .own 3 (.int .i64), .own 278 cP] 0, .box 198 [.sc .bool, .own 3 (.int .i64), .own 278 cP] 0], []⟩)]
def f131_437 (x:Int×(S6×Unit)×(S2×Unit)×(Bool×List Int×List S4×Unit)×(Bool×List Int×List S4×Unit)×Int×Int×Bool×Unit):Option (Int×(S6×Unit)×(S2×Unit)×(Bool×List Int×List S4×Unit)×(Bool×List Int×List S4×Unit)×Unit):=
 let A340:=x.1
 let v341:=x.2.2.2.2.2.1
 let v342:=x.2.2.2.2.2.2.1
 bif x.2.2.2.2.2.2.2.1 then bif inE v341 x.2.2.2.1.2.2.1.length then some (A340,(x.2.1.1,()),(x.2.2.1.1,()),(x.2.2.2.1.1,x.2.2.2.1.2.1,x.2.2.2.1.2.2.1.take v341.toNat,()),(x.2.2.2.2.1.1,x.2.2.2.2.1.2.1,x.2.2.2.2.1.2.2.1,()),())
 else none
 else bif beq v342 34 then bif aE v341 x.2.2.2.1.2.2.1.length then some (A340,(x.2.1.1,()),(x.2.2.1.1,()),(x.2.2.2.1.1,x.2.2.2.1.2.1,x.2.2.2.1.2.2.1.set v341.toNat ((x.2.2.2.1.2.2.1.getD v341.toNat G0).1,x.2.2.1.1.2.1,(x.2.2.2.1.2.2.1.getD v341.toNat G0).2.2),()),(x.2.2.2.2.1.1,x.2.2.2.2.1.2.1,x.2.2.2.2.1.2.2.1,()),())
 else none else bif beq v342 33 then let row348:=([(false,x.2.2.1.1.2.1,0)])
 bif cN (x.2.2.2.1.2.2.1.length+row348.length) 5864062014805 then some (A340,(x.2.1.1,()),(x.2.2.1.1,()),(x.2.2.2.1.1,x.2.2.2.1.2.1,x.2.2.2.1.2.2.1++row348,()),(x.2.2.2.2.1.1,x.2.2.2.2.1.2.1,x.2.2.2.2.1.2.2.1,()),())
 else none else bif beq v342 31 then let row351:=([(true,x.2.2.1.1.2.2.1,x.2.2.1.1.2.1)])
 bif cN (x.2.2.2.1.2.2.1.length+row351.length) 5864062014805 then some (A340,(x.2.1.1,()),(x.2.2.1.1,()),(x.2.2.2.1.1,x.2.2.2.1.2.1,x.2.2.2.1.2.2.1++row351,()),(x.2.2.2.2.1.1,x.2.2.2.2.1.2.1,x.2.2.2.2.1.2.2.1,()),())
 else none else some (A340,(x.2.1.1,()),(x.2.2.1.1,()),(x.2.2.2.1.1,x.2.2.2.1.2.1,x.2.2.2.1.2.2.1,()),(x.2.2.2.2.1.1,x.2.2.2.2.1.2.1,x.2.2.2.2.1.2.2.1,()),())
def sh131_473 : Sh := ⟨[2, 7, 10, 11, 29, 38, 417], [.val (.int .i64), .box 198 [.sc cT] 0, .box 118 [.sc Y2] 0, .box 198 [.sc .bool, .own 3 (.int .i64), .own 278 cP] 0, .box 198 [.sc .bool, .own 3 (.int .i64), .own 278 cP] 0, .own 229 Y32, .val .bool], []⟩
def outs131_473 : List (Ex × Sh) := [(.normal, ⟨[7, 10, 11, 29, 38], [.box 198 [.sc cT] 0, .box 118 [.sc Y2] 0, .box 198 [.sc .bool, .sc (.row (.int .i64)), .sc (.row cP)] 0, .box 198 [.sc .bool, .own 3 (.int .i64), .own 278 cP] 0, .own 229 Y32], []⟩)]
def f131_473 (x:Int×(S6×Unit)×(S2×Unit)×(Bool×List Int×List S4×Unit)×(Bool×List Int×List S4×Unit)×List S5×Bool×Unit):Option ((S6×Unit)×(S2×Unit)×(Bool×List Int×List S4×Unit)×(Bool×List Int×List S4×Unit)×List S5×Unit):=
 let v359:=x.2.2.2.2.2.1
 bif x.2.2.2.2.2.2.1 then let row362:=([(wr (x.1+1),x.2.2.2.1.1,x.2.2.2.1.2.1,x.2.2.2.1.2.2.1)])
 bif cN (v359.length+row362.length) 2199023255552 then some ((x.2.1.1,()),(x.2.2.1.1,()),(x.2.2.2.1.1,x.2.2.2.1.2.1,x.2.2.2.1.2.2.1,()),(x.2.2.2.2.1.1,x.2.2.2.2.1.2.1,x.2.2.2.2.1.2.2.1,()),v359++row362,())
 else none else some ((x.2.1.1,()),(x.2.2.1.1,()),(x.2.2.2.1.1,x.2.2.2.1.2.1,x.2.2.2.1.2.2.1,()),(x.2.2.2.2.1.1,x.2.2.2.2.1.2.1,x.2.2.2.2.1.2.2.1,()),v359,())
def sh131_528 : Sh := ⟨[10, 38, 39, 40], [.box 118 [.sc Y2] 0, .own 229 Y32, .box 198 [.sc .bool, .own 3 (.int .i64), .own 278 cP] 0, .val (.int .i64)], []⟩
def outs131_528 : List (Ex × Sh) := [((.exit 20), ⟨[10, 38, 39], [.box 118 [.sc Y2] 0, .own 229 Y32, .box 198 [.sc .bool, .own 3 (.int .i64), .own 278 cP] 0], []⟩)]
def f131_528:Lp ((S2×Unit)×List S5×(Bool×List Int×List S4×Unit)×Int×Unit) (((S2×Unit)×List S5×(Bool×List Int×List S4×Unit)×Unit)):=fun x=>
 let v378:=x.2.1
 let v379:=x.2.2.2.1
 bif blt v379 x.2.2.1.2.1.length then bif aE v379 x.2.2.1.2.1.length then some (.inl ((x.1.1,()),v378,(x.2.2.1.1,x.2.2.1.2.1.set v379.toNat (0 : Int),x.2.2.1.2.2.1,()),wr (v379+1),()))
 else none else some (.inr ((x.1.1,()),v378,(x.2.2.1.1,x.2.2.1.2.1,x.2.2.1.2.2.1,()),()))
def ps131 : List VS := [.val Y5, .val Y4, .val (.int .i64), .val cT]
def rs131 : List VS := [.val (.int .i64), .own 229 Y32]
def f131 (x:aN×S9×Int×S6×Unit):Option ((Int×List S5×Unit)×(Unit)):=
 let o2:=x.2.1
 let A3:=x.2.2.1
 let r4:=x.2.2.2.1
 bif aE A3 o2.2.2.2.2.2.2.2.1.length then (f132 (r4,())).bind fun r5=>let v6:=(o2.2.2.2.2.2.2.2.1.getD A3.toNat aT).1
 (aA f131_20 (A3,(x.1,()),(r4,()),(o2.2.2.2.2.2.2.2.1.getD A3.toNat aT,()),(r5.1.1.1,r5.1.1.2.1,r5.1.1.2.2.1,()),([] : List Int),((aQ bB v6).getD 0 0,(aQ bB v6).getD 1 0,(aQ bB v6).getD 2 0,(aQ bB v6).getD 3 0),0,())).bind fun y402=>match y402 with
 | .inl z189=>(
 (f131_221 (z189.1,(z189.2.1.1,()),(z189.2.2.1.1,()),(z189.2.2.2.1.1,z189.2.2.2.1.2.1,z189.2.2.2.1.2.2.1,()),z189.2.2.2.2.1,beq z189.2.2.1.1.1 40,())).bind fun z198=>
 let v201:=(z198.2.1.1.2.2.length : Int)
 (f131_237 (z198.1,(z198.2.1.1,()),(z198.2.2.1.1,()),(z198.2.2.2.1.1,z198.2.2.2.1.2.1,z198.2.2.2.1.2.2.1,()),z198.2.2.2.2.1,(G0,()),v201,blt 0 v201,())).bind fun z208=>
 (f131_257 (z208.1,(z208.2.1.1,()),(z208.2.2.1.1,()),(z208.2.2.2.1.1,z208.2.2.2.1.2.1,z208.2.2.2.1.2.2.1,()),z208.2.2.2.2.1,(z208.2.2.2.2.2.1.1,()),blt 0 z208.2.1.1.2.2.length,z208.2.2.1.1.1,beq z208.2.2.1.1.1 32,())).bind fun y398=>match y398 with
 | .inl z229=>(
 (f131_302 (z229.1,(z229.2.1.1,()),(z229.2.2.1.1,()),(z229.2.2.2.1.1,z229.2.2.2.1.2.1,z229.2.2.2.1.2.2.1,()),z229.2.2.2.2.1,())).bind fun z244=>
 bif z244.2.2.2.2.2.1 then some ((11,([] : List S5),()),()) else (f132 ((z244.2.2.2.1.1,z244.2.2.2.1.2.1,z244.2.2.2.1.2.2.1),())).bind fun r248=>
 (aA f131_316 (z244.1,(z244.2.1.1,()),(z244.2.2.1.1,()),(z244.2.2.2.1.1,z244.2.2.2.1.2.1,z244.2.2.2.1.2.2.1,()),z244.2.2.2.2.1,(r248.1.1.1,r248.1.1.2.1,r248.1.1.2.2.1,()),((aQ bB z244.2.2.1.1.1).getD 0 0,(aQ bB z244.2.2.1.1.1).getD 1 0,(aQ bB z244.2.2.1.1.1).getD 2 0,(aQ bB z244.2.2.1.1.1).getD 3 0),0,())).bind fun z267=>
 (f131_349 (z267.1,(z267.2.1.1,()),(z267.2.2.1.1,()),(z267.2.2.2.1.1,z267.2.2.2.1.2.1,z267.2.2.2.1.2.2.1,()),z267.2.2.2.2.1,(z267.2.2.2.2.2.1.1,z267.2.2.2.2.2.1.2.1,z267.2.2.2.2.2.1.2.2.1,()),beq z267.2.2.1.1.1 40,())).bind fun z276=>
 (aA f131_356 (z276.1,(z276.2.1.1,()),(z276.2.2.1.1,()),(z276.2.2.2.1.1,z276.2.2.2.1.2.1,z276.2.2.2.1.2.2.1,()),z276.2.2.2.2.1,(z276.2.2.2.2.2.1.1,z276.2.2.2.2.2.1.2.1,z276.2.2.2.2.2.1.2.2.1,()),z276.2.1.1.2.2,(z276.2.1.1.2.2.length : Int),0,())).bind fun y394=>match y394 with
 | .inl z334=>(f131_437 (z334.1,(z334.2.1.1,()),(z334.2.2.1.1,()),(z334.2.2.2.1.1,z334.2.2.2.1.2.1,z334.2.2.2.1.2.2.1,()),(z334.2.2.2.2.1.1,z334.2.2.2.2.1.2.1,z334.2.2.2.2.1.2.2.1,()),wr ((z334.2.1.1.2.2.length : Int) - 1),z334.2.2.1.1.1,(beq z334.2.2.1.1.1 32)||(beq z334.2.2.1.1.1 36),())).bind fun z353=>
 (f131_473 (z353.1,(z353.2.1.1,()),(z353.2.2.1.1,()),(z353.2.2.2.1.1,z353.2.2.2.1.2.1,z353.2.2.2.1.2.2.1,()),(z353.2.2.2.2.1.1,z353.2.2.2.2.1.2.1,z353.2.2.2.2.1.2.2.1,()),([] : List S5),((bne z353.2.2.1.1.1 19)&&(bne z353.2.2.1.1.1 29))&&(bne z353.2.2.1.1.1 30),())).bind fun z364=>
 let v365:=z364.2.2.2.2.1
 bif beq z364.2.1.1.1 19 then let row367:=([(z364.2.1.1.2.1,z364.2.2.1.1,z364.2.2.1.2.1,z364.2.2.1.2.2.1)])
 bif cN (v365.length+row367.length) 2199023255552 then some ((0,v365++row367,()),()) else none
 else bif (beq z364.2.1.1.1 20)||((beq z364.2.1.1.1 21)||((beq z364.2.1.1.1 38)||(beq z364.2.1.1.1 39))) then let row371:=([(z364.2.1.1.2.2.1,z364.2.2.1.1,z364.2.2.1.2.1,z364.2.2.1.2.2.1)])
 bif cN (v365.length+row371.length) 2199023255552 then some ((0,v365++row371,()),()) else none
 else bif beq z364.2.1.1.1 41 then let row374:=([(z364.2.1.1.2.2.1,z364.2.2.2.1.1,z364.2.2.2.1.2.1,z364.2.2.2.1.2.2.1)])
 bif cN (v365.length+row374.length) 2199023255552 then some ((0,v365++row374,()),()) else none else bif beq z364.2.1.1.1 31 then (f132 (z364.1.1,())).bind fun r377=>
 (aA f131_528 ((z364.2.1.1,()),v365,(r377.1.1.1,r377.1.1.2.1,r377.1.1.2.2.1,()),z364.2.1.1.2.2.1,())).bind fun z384=>let v385:=z384.2.1
 let v386:=wr (z384.1.1.2.2.1+1)
 bif aE z384.1.1.2.2.1 z384.2.2.1.2.1.length then let row387:=(z384.2.2.1.2.1.set z384.1.1.2.2.1.toNat (1 : Int))
 bif aE v386 row387.length then let row389:=([(z384.1.1.2.1,z384.2.2.1.1,row387.set v386.toNat (1 : Int),z384.2.2.1.2.2.1)])
 bif cN (v385.length+row389.length) 2199023255552 then some ((0,v385++row389,()),()) else none else none else none else some ((0,v365,()),())
 | .inr z391=>some ((z391.1,z391.2.1,()),()))
 | .inr z395=>some ((z395.1,z395.2.1,()),()))
 | .inr z399=>some ((z399.1,z399.2.1,()),()) else none
def f133_8:Lp ((S6×Unit)×(S6×Unit)×Int×Int×Unit) ((((S6×Unit)×(S6×Unit)×Unit)⊕(Bool×Unit))):=fun x=>
 let v4:=x.2.2.1
 let v5:=x.2.2.2.1
 bif blt v5 v4 then bif aE v5 x.1.1.2.1.length then bif aE v5 x.2.1.1.2.1.length then bif bne (x.1.1.2.1.getD v5.toNat (0 : Int)) (x.2.1.1.2.1.getD v5.toNat (0 : Int)) then some (.inr (.inr (false,())))
 else some (.inl ((x.1.1,()),(x.2.1.1,()),v4,wr (v5+1),())) else none else none else some (.inr (.inl ((x.1.1,()),(x.2.1.1,()),())))
def f133_40:Lp ((S6×Unit)×(S6×Unit)×Int×Int×Unit) (((Unit)⊕(Bool×Unit))):=fun x=>
 let v16:=x.2.2.1
 let v17:=x.2.2.2.1
 bif blt v17 v16 then bif aE v17 x.1.1.2.2.length then bif aE v17 x.2.1.1.2.2.length then bif !((jF (x.1.1.2.2.getD v17.toNat G0).1 (x.2.1.1.2.2.getD v17.toNat G0).1)&&((beq (x.1.1.2.2.getD v17.toNat G0).2.1 (x.2.1.1.2.2.getD v17.toNat G0).2.1)&&((beq (x.1.1.2.2.getD v17.toNat G0).2.2 (x.2.1.1.2.2.getD v17.toNat G0).2.2)&&true))) then some (.inr (.inr (false,())))
 else some (.inl ((x.1.1,()),(x.2.1.1,()),v16,wr (v17+1),())) else none else none else some (.inr (.inl ()))
def f133 (x:S6×S6×Unit):Option ((Bool×Unit)×(Unit)):=
 let a1:=x.1
 (aA f133_8 ((a1,()),(x.2.1,()),(a1.2.1.length : Int),0,())).bind fun y27=>match y27 with
 | .inl z11=>(
 bif bne z11.1.1.2.2.length z11.2.1.1.2.2.length then some ((false,()),()) else (aA f133_40 ((z11.1.1,()),(z11.2.1.1,()),(z11.1.1.2.2.length : Int),0,())).bind fun y24=>match y24 with
 | .inl _=>some ((true,()),())
 | .inr z22=>some ((z22.1,()),()))
 | .inr z25=>some ((z25.1,()),())
def f174 (x:S2×Int×Unit):Option ((List Int×Unit)×(Unit)):=
 let n1:=x.1
 let at2:=x.2.1
 bif (beq n1.1 1)||((beq n1.1 3)||((beq n1.1 28)||((beq n1.1 29)||(beq n1.1 30)))) then some ((([] : List Int),()),())
 else bif beq n1.1 18 then bif beq n1.2.2.1 12 then some ((([] : List Int),()),()) else some (([wr (at2+1)],()),()) else bif beq n1.1 41 then some (([n1.2.2.1],()),())
 else bif beq n1.1 19 then some (([n1.2.1],()),()) else bif beq n1.1 31 then some (([wr (at2+1),n1.2.1],()),())
 else bif (beq n1.1 20)||((beq n1.1 21)||((beq n1.1 38)||(beq n1.1 39))) then some (([wr (at2+1),n1.2.2.1],()),()) else some (([wr (at2+1)],()),())
def f134_28:Lp (List S6×(S9×Unit)×Int×List Bool×List Int×Int×Int×Unit) (((List S6×(S9×Unit)×Int×Int×Unit)⊕(Int×Unit))):=fun x=>
 let states14:=x.1
 let i15:=x.2.2.1
 let seen16:=x.2.2.2.1
 let todo17:=x.2.2.2.2.1
 let v18:=x.2.2.2.2.2.1
 let v19:=x.2.2.2.2.2.2.1
 bif blt 0 todo17.length then let v23:=(wr ((todo17.length : Int) - 1))
 bif aE v23 todo17.length then let v24:=(todo17.getD v23.toNat (0 : Int))
 let v26:=wr ((todo17.length : Int) - 1)
 bif inE v26 todo17.length then let row27:=(todo17.take v26.toNat)
 bif beq v24 i15 then some (.inr (.inr (i15,())))
 else bif aE v24 seen16.length then bif !(seen16.getD v24.toNat false) then bif aE v24 seen16.length then bif aE v24 x.2.1.1.2.2.2.2.2.2.2.1.length then (f174 (x.2.1.1.2.2.2.2.2.2.2.1.getD v24.toNat aT,v24,())).bind fun r32=>
 bif cN (row27.length+r32.1.1.length) 17592186044416 then some (.inl (states14,(x.2.1.1,()),i15,seen16.set v24.toNat true,row27++r32.1.1,v18,v19,())) else none else none else none
 else some (.inl (states14,(x.2.1.1,()),i15,seen16,row27,v18,v19,())) else none else none else none else some (.inr (.inl (states14,(x.2.1.1,()),v18,v19,())))
def f134_8:Lp (List S6×(S9×Unit)×Int×Int×Unit) (((Unit)⊕(Int×Unit))):=fun x=>
 let states4:=x.1
 let v5:=x.2.2.1
 let v6:=x.2.2.2.1
 bif blt v6 v5 then bif aE v6 states4.length then bif !(states4.getD v6.toNat fI).1 then some (.inl (states4,(x.2.1.1,()),v5,wr (v6+1),()))
 else let v11:=(x.2.1.1.2.2.2.2.2.2.2.1.length : Int)
 bif inE v11 (281474976710656 : Nat) then bif aE v6 x.2.1.1.2.2.2.2.2.2.2.1.length then (f174 (x.2.1.1.2.2.2.2.2.2.2.1.getD v6.toNat aT,v6,())).bind fun r13=>
 (aA f134_28 (states4,(x.2.1.1,()),v6,List.replicate v11.toNat false,r13.1.1,v5,v6,())).bind fun y41=>match y41 with
 | .inl z34=>some (.inl (z34.1,(z34.2.1.1,()),z34.2.2.1,wr (z34.2.2.2.1+1),()))
 | .inr z39=>some (.inr (.inr (z39.1,()))) else none else none else none else some (.inr (.inl ()))
def f134 (x:S9×List S6×Unit):Option ((Int×Unit)×(Unit)):=
 let p1:=x.1
 (aA f134_8 (x.2.1,(p1,()),(p1.2.2.2.2.2.2.2.1.length : Int),0,())).bind fun y45=>match y45 with
 | .inl _=>some ((-1,()),())
 | .inr z43=>some ((z43.1,()),())
def f68_20:Lp ((aN×Unit)×(S9×Unit)×List S6×(Bool×List Int×List S4×Unit)×Int×Int×Unit) (((aN×Unit)×(S9×Unit)×List S6×(Bool×List Int×List S4×Unit)×Unit)):=fun x=>
 let v9:=x.2.2.1
 let v10:=x.2.2.2.2.1
 let v11:=x.2.2.2.2.2.1
 bif blt v11 v10 then bif aE v11 x.2.2.2.1.2.1.length then some (.inl ((x.1.1,()),(x.2.1.1,()),v9,(x.2.2.2.1.1,x.2.2.2.1.2.1.set v11.toNat (1 : Int),x.2.2.2.1.2.2.1,()),v10,wr (v11+1),()))
 else none else some (.inr ((x.1.1,()),(x.2.1.1,()),v9,(x.2.2.2.1.1,x.2.2.2.1.2.1,x.2.2.2.1.2.2.1,()),()))
def f68_96:Lp ((aN×Unit)×(S9×Unit)×List S6×List Bool×Int×List S5×Int×Int×Unit) ((((aN×Unit)×(S9×Unit)×List S6×List Bool×Int×Unit)⊕(List S6×Int×Int×Unit))):=fun x=>
 let v35:=x.2.2.1
 let v36:=x.2.2.2.1
 let v37:=x.2.2.2.2.1
 let v38:=x.2.2.2.2.2.1
 let v39:=x.2.2.2.2.2.2.1
 let v40:=x.2.2.2.2.2.2.2.1
 bif blt v40 v39 then bif aE v40 v38.length then let v42:=(v38.getD v40.toNat F0).1
 bif aE v42 v35.length then bif !(v35.getD v42.toNat fI).1 then let v45:=(v38.getD v40.toNat F0).1
 (f132 ((v38.getD v40.toNat F0).2,())).bind fun r46=>
 bif aE v45 v35.length then let v48:=(v38.getD v40.toNat F0).1
 bif aE v48 v36.length then some (.inl ((x.1.1,()),(x.2.1.1,()),v35.set v45.toNat (r46.1.1.1,r46.1.1.2.1,r46.1.1.2.2.1),v36.set v48.toNat true,imin v37 (v38.getD v40.toNat F0).1,v38,v39,wr (v40+1),()))
 else none else none else let v53:=(v38.getD v40.toNat F0).1
 bif aE v53 v35.length then (f133 (v35.getD v53.toNat fI,(v38.getD v40.toNat F0).2,())).bind fun r54=>
 bif !r54.1.1 then some (.inr (.inr (([] : List S6),13,(v38.getD v40.toNat F0).1,())))
 else some (.inl ((x.1.1,()),(x.2.1.1,()),v35,v36,v37,v38,v39,wr (v40+1),())) else none else none else none else some (.inr (.inl ((x.1.1,()),(x.2.1.1,()),v35,v36,v37,())))
def f68_60:Lp ((aN×Unit)×(S9×Unit)×List S6×List Bool×Int×Unit) ((((S9×Unit)×List S6×Unit)⊕(List S6×Int×Int×Unit))):=fun x=>
 let v22:=x.2.2.1
 let v23:=x.2.2.2.1
 let v24:=x.2.2.2.2.1
 bif blt v24 v23.length then bif aE v24 v23.length then bif !(v23.getD v24.toNat false) then some (.inl ((x.1.1,()),(x.2.1.1,()),v22,v23,wr (v24+1),()))
 else bif aE v24 v23.length then bif aE v24 v22.length then (f131 (x.1.1,x.2.1.1,v24,v22.getD v24.toNat fI,())).bind fun r31=>
 bif bne r31.1.1 0 then some (.inr (.inr (([] : List S6),r31.1.1,v24,())))
 else (aA f68_96 ((x.1.1,()),(x.2.1.1,()),v22,v23.set v24.toNat false,wr (v24+1),r31.1.2.1,(r31.1.2.1.length : Int),0,())).bind fun y66=>match y66 with
 | .inl z58=>some (.inl ((z58.1.1,()),(z58.2.1.1,()),z58.2.2.1,z58.2.2.2.1,z58.2.2.2.2.1,()))
 | .inr z62=>some (.inr (.inr (z62.1,z62.2.1,z62.2.2.1,()))) else none else none else none else some (.inr (.inl ((x.2.1.1,()),v22,())))
def f68 (x:aN×Int×Unit):Option ((List S6×Int×Int×Unit)×(Unit)):=
 let t1:=x.1
 let o2:=x.2.1
 bif aE o2 t1.length then let v4:=((t1.getD o2.toNat P0).2.2.2.2.2.2.2.1.length : Int)
 bif inE v4 (5026338869833 : Nat) then let v6:=(t1.getD o2.toNat P0).2.2.2.2.1
 bif inE v6 (35184372088832 : Nat) then (aA f68_20 ((t1,()),(t1.getD o2.toNat P0,()),List.replicate v4.toNat fI,(true,List.replicate v6.toNat (0 : Int),([] : List S4),()),(t1.getD o2.toNat P0).2.2.1,0,())).bind fun z15=>
 let v16:=z15.2.2.1
 bif z15.2.1.1.2.2.2.1 then bif aE z15.2.1.1.2.2.1 z15.2.2.2.1.2.1.length then bif aE 0 v16.length then let v19:=(z15.2.1.1.2.2.2.2.2.2.2.1.length : Int)
 bif inE v19 (281474976710656 : Nat) then let row20:=(List.replicate v19.toNat false)
 bif aE 0 row20.length then (aA f68_60 ((z15.1.1,()),(z15.2.1.1,()),v16.set (0 : Int).toNat (z15.2.2.2.1.1,z15.2.2.2.1.2.1.set z15.2.1.1.2.2.1.toNat (3 : Int),z15.2.2.2.1.2.2.1),row20.set (0 : Int).toNat true,0,())).bind fun y75=>match y75 with
 | .inl z67=>let v68:=z67.2.1
 (f134 (z67.1.1,v68,())).bind fun r69=>bif ble 0 r69.1.1 then some ((([] : List S6),14,r69.1.1,()),()) else some ((v68,0,0,()),())
 | .inr z71=>some ((z71.1,z71.2.1,z71.2.2.1,()),()) else none else none else none else none else bif aE 0 v16.length then let v77:=(z15.2.1.1.2.2.2.2.2.2.2.1.length : Int)
 bif inE v77 (281474976710656 : Nat) then let row78:=(List.replicate v77.toNat false)
 bif aE 0 row78.length then (aA f68_60 ((z15.1.1,()),(z15.2.1.1,()),v16.set (0 : Int).toNat (z15.2.2.2.1.1,z15.2.2.2.1.2.1,z15.2.2.2.1.2.2.1),row78.set (0 : Int).toNat true,0,())).bind fun y88=>match y88 with
 | .inl z80=>let v81:=z80.2.1
 (f134 (z80.1.1,v81,())).bind fun r82=>bif ble 0 r82.1.1 then some ((([] : List S6),14,r82.1.1,()),()) else some ((v81,0,0,()),())
 | .inr z84=>some ((z84.1,z84.2.1,z84.2.2.1,()),()) else none else none else none else none else none else none
def f27_20:Lp ((aN×Unit)×(aZ×Unit)×Int×Int×Unit) ((((aZ×Unit)×Unit)⊕((aZ×Unit)×Unit))):=fun x=>
 let v5:=x.2.2.1
 let v6:=x.2.2.2.1
 bif blt v6 v5 then (f68 (x.1.1,v6,())).bind fun r8=>bif bne r8.1.2.1 0 then some (.inr (.inr (((r8.1.2.1,v6,r8.1.2.2.1),()),())))
 else some (.inl ((x.1.1,()),(x.2.1.1,()),v5,wr (v6+1),())) else some (.inr (.inl ((x.2.1.1,()),())))
def f27 (x:aN×Unit):Option ((aZ×Unit)×(Unit)):=
 let c1:=x.1
 (f67 (c1,())).bind fun r2=>bif !((beq r2.1.1.1 0)&&((beq r2.1.1.2.1 0)&&((beq r2.1.1.2.2 0)&&true))) then some ((r2.1.1,()),())
 else (aA f27_20 ((c1,()),((0,0,0),()),(c1.length : Int),0,())).bind fun y13=>match y13 with
 | .inl _=>some (((0,0,0),()),())
 | .inr z12=>some ((z12.1.1,()),())
def f69 (x:Int×(S2×Unit)×(Int×Unit)×Unit):Option ((Bool×Unit)×((S2×Unit)×(Int×Unit)×Unit)):=
 let r1:=x.1
 some (((bne r1 x.2.1.1.2.1)&&(bne r1 x.2.2.1.1),()),(x.2.1.1,()),(x.2.2.1.1,()),())
def f28_20:Lp (S9×Int×(List S8×Int×Unit)×(S9×Unit)×(S7×Unit)×(S2×Unit)×(S7×Unit)×Int×Unit) ((S9×Int×(List S8×Int×Unit)×(S9×Unit)×(S7×Unit)×(S2×Unit)×(S7×Unit)×Int×Unit)):=fun x=>
 let t13:=x.1
 let o14:=x.2.1
 let v15:=x.2.2.2.2.2.2.2.1
 bif blt (wr (o14+v15)) x.2.2.2.1.1.2.2.2.2.2.2.2.1.length then let v19:=(wr (o14+v15))
 bif aE v19 x.2.2.2.1.1.2.2.2.2.2.2.2.1.length then bif beq (x.2.2.2.1.1.2.2.2.2.2.2.2.1.getD v19.toNat aT).1 42 then let v22:=(wr (o14+v15))
 bif aE v22 x.2.2.2.1.1.2.2.2.2.2.2.2.1.length then bif beq (x.2.2.2.1.1.2.2.2.2.2.2.2.1.getD v22.toNat aT).2.1 (wr (x.2.2.2.2.2.1.1.2.1+v15)) then some (.inl (t13,o14,(x.2.2.1.1,x.2.2.1.2.1,()),(x.2.2.2.1.1,()),(x.2.2.2.2.1.1,()),(x.2.2.2.2.2.1.1,()),(x.2.2.2.2.2.2.1.1,()),wr (v15+1),()))
 else some (.inr (t13,o14,(x.2.2.1.1,x.2.2.1.2.1,()),(x.2.2.2.1.1,()),(x.2.2.2.2.1.1,()),(x.2.2.2.2.2.1.1,()),(x.2.2.2.2.2.2.1.1,()),v15,())) else none
 else some (.inr (t13,o14,(x.2.2.1.1,x.2.2.1.2.1,()),(x.2.2.2.1.1,()),(x.2.2.2.2.1.1,()),(x.2.2.2.2.2.1.1,()),(x.2.2.2.2.2.2.1.1,()),v15,())) else none
 else some (.inr (t13,o14,(x.2.2.1.1,x.2.2.1.2.1,()),(x.2.2.2.1.1,()),(x.2.2.2.2.1.1,()),(x.2.2.2.2.2.1.1,()),(x.2.2.2.2.2.2.1.1,()),v15,()))
def f28_17 (x:S9×Int×(List S8×Int×Unit)×(S9×Unit)×(S7×Unit)×(S2×Unit)×(S7×Unit)×Bool×Unit):Option ((S9×Int×(List S8×Int×Unit)×(S9×Unit)×(S7×Unit)×(S2×Unit)×(S7×Unit)×Unit)⊕(S9×Int×(List S8×Int×Unit)×(S7×Unit)×Unit)):=
 let t10:=x.1
 let o11:=x.2.1
 bif x.2.2.2.2.2.2.2.1 then (aA f28_20 (t10,o11,(x.2.2.1.1,x.2.2.1.2.1,()),(x.2.2.2.1.1,()),(x.2.2.2.2.1.1,()),(x.2.2.2.2.2.1.1,()),(x.2.2.2.2.2.2.1.1,()),1,())).bind fun z27=>
 let t28:=z27.1
 let o29:=z27.2.1
 let v30:=z27.2.2.2.2.2.2.2.1
 bif ble 2 v30 then some (.inr (t28,o29,(z27.2.2.1.1,z27.2.2.1.2.1,()),((46,z27.2.2.2.2.2.1.1.2.1,v30,0,0,0,0),()),()))
 else some (.inl (t28,o29,(z27.2.2.1.1,z27.2.2.1.2.1,()),(z27.2.2.2.1.1,()),(z27.2.2.2.2.1.1,()),(z27.2.2.2.2.2.1.1,()),(z27.2.2.2.2.2.2.1.1,()),()))
 else some (.inl (t10,o11,(x.2.2.1.1,x.2.2.1.2.1,()),(x.2.2.2.1.1,()),(x.2.2.2.2.1.1,()),(x.2.2.2.2.2.1.1,()),(x.2.2.2.2.2.2.1.1,()),()))
def f28_97 (x:S9×Int×(List S8×Int×Unit)×(S7×Unit)×(S2×Unit)×(S7×Unit)×(S2×Unit)×Bool×Unit):Option ((S9×Int×(List S8×Int×Unit)×(S7×Unit)×(S7×Unit)×Unit)⊕(S9×Int×(List S8×Int×Unit)×(S7×Unit)×Unit)):=
 let t67:=x.1
 let o68:=x.2.1
 bif x.2.2.2.2.2.2.2.1 then let v70:=(wr (x.2.2.1.2.1+1))
 some (.inr (t67,o68,(x.2.2.1.1,v70,()),((45,x.2.2.2.2.2.2.1.1.2.1,x.2.2.2.2.2.2.1.1.2.2.1,x.2.2.2.2.1.1.2.2.1,wr (v70 - 1),0,x.2.2.2.2.1.1.2.1),()),()))
 else some (.inl (t67,o68,(x.2.2.1.1,x.2.2.1.2.1,()),(x.2.2.2.1.1,()),(x.2.2.2.2.2.1.1,()),()))
def f28_89 (x:S9×Int×(List S8×Int×Unit)×(S9×Unit)×(S7×Unit)×(S2×Unit)×(S7×Unit)×(S2×Unit)×(Int×Unit)×Bool×Unit):Option ((S9×Int×(List S8×Int×Unit)×(S7×Unit)×(S7×Unit)×Unit)⊕(S9×Int×(List S8×Int×Unit)×(S7×Unit)×Unit)):=
 let t59:=x.1
 let o60:=x.2.1
 bif x.2.2.2.2.2.2.2.2.2.1 then some (.inr (t59,o60,(x.2.2.1.1,x.2.2.1.2.1,()),((44,x.2.2.2.2.2.2.2.1.1.2.1,x.2.2.2.2.2.2.2.1.1.2.2.1,x.2.2.2.2.2.2.2.1.1.2.2.2.1,x.2.2.2.2.2.1.1.2.2.1,0,x.2.2.2.2.2.1.1.2.1),()),()))
 else (bK (beq x.2.2.2.2.2.1.1.1 4) (bif aE x.2.2.2.2.2.1.1.2.2.1 x.2.2.2.1.1.2.2.2.2.2.2.1.length then some (beq (x.2.2.2.1.1.2.2.2.2.2.2.1.getD x.2.2.2.2.2.1.1.2.2.1.toNat jI).1 4) else none) (some false)).bind fun c63=>
 bif (c63&&(beq x.2.2.2.2.2.2.2.1.1.1 15))&&(beq x.2.2.2.2.2.2.2.1.1.2.2.2.1 x.2.2.2.2.2.2.2.2.1.1) then (f69 (x.2.2.2.2.2.2.2.1.1.2.2.1,(x.2.2.2.2.2.1.1,()),(x.2.2.2.2.2.2.2.2.1.1,()),())).bind fun r66=>
 (f28_97 (t59,o60,(x.2.2.1.1,x.2.2.1.2.1,()),(x.2.2.2.2.1.1,()),(r66.2.1.1,()),(x.2.2.2.2.2.2.1.1,()),(x.2.2.2.2.2.2.2.1.1,()),r66.1.1,())).bind fun y78=>match y78 with
 | .inl z72=>some (.inl (z72.1,z72.2.1,(z72.2.2.1.1,z72.2.2.1.2.1,()),(z72.2.2.2.1.1,()),(z72.2.2.2.2.1.1,()),()))
 | .inr z75=>some (.inr (z75.1,z75.2.1,(z75.2.2.1.1,z75.2.2.1.2.1,()),(z75.2.2.2.1.1,()),()))
 else (f28_97 (t59,o60,(x.2.2.1.1,x.2.2.1.2.1,()),(x.2.2.2.2.1.1,()),(x.2.2.2.2.2.1.1,()),(x.2.2.2.2.2.2.1.1,()),(x.2.2.2.2.2.2.2.1.1,()),false,())).bind fun y85=>match y85 with
 | .inl z79=>some (.inl (z79.1,z79.2.1,(z79.2.2.1.1,z79.2.2.1.2.1,()),(z79.2.2.2.1.1,()),(z79.2.2.2.2.1.1,()),()))
 | .inr z82=>some (.inr (z82.1,z82.2.1,(z82.2.2.1.1,z82.2.2.1.2.1,()),(z82.2.2.2.1.1,()),()))
def f28_81 (x:S9×Int×(List S8×Int×Unit)×(S9×Unit)×(S7×Unit)×(S2×Unit)×(S7×Unit)×(S2×Unit)×(Int×Unit)×Bool×Unit):Option ((S9×Int×(List S8×Int×Unit)×(S7×Unit)×(S7×Unit)×Unit)⊕(S9×Int×(List S8×Int×Unit)×(S7×Unit)×Unit)):=
 let t52:=x.1
 let o53:=x.2.1
 bif x.2.2.2.2.2.2.2.2.2.1 then some (.inr (t52,o53,(x.2.2.1.1,x.2.2.1.2.1,()),((44,x.2.2.2.2.2.2.2.1.1.2.1,x.2.2.2.2.2.2.2.1.1.2.2.1,x.2.2.2.2.2.2.2.1.1.2.2.2.2,x.2.2.2.2.2.1.1.2.2.1,1,x.2.2.2.2.2.1.1.2.1),()),()))
 else bif ((beq x.2.2.2.2.2.1.1.1 4)&&(beq x.2.2.2.2.2.2.2.1.1.1 18))&&(beq x.2.2.2.2.2.2.2.1.1.2.2.2.2 x.2.2.2.2.2.2.2.2.1.1) then (f69 (x.2.2.2.2.2.2.2.1.1.2.2.2.1,(x.2.2.2.2.2.1.1,()),(x.2.2.2.2.2.2.2.2.1.1,()),())).bind fun r58=>
 (f28_89 (t52,o53,(x.2.2.1.1,x.2.2.1.2.1,()),(x.2.2.2.1.1,()),(x.2.2.2.2.1.1,()),(r58.2.1.1,()),(x.2.2.2.2.2.2.1.1,()),(x.2.2.2.2.2.2.2.1.1,()),(r58.2.2.1.1,()),r58.1.1,())).bind fun y92=>match y92 with
 | .inl z86=>some (.inl (z86.1,z86.2.1,(z86.2.2.1.1,z86.2.2.1.2.1,()),(z86.2.2.2.1.1,()),(z86.2.2.2.2.1.1,()),()))
 | .inr z89=>some (.inr (z89.1,z89.2.1,(z89.2.2.1.1,z89.2.2.1.2.1,()),(z89.2.2.2.1.1,()),()))
 else (f28_89 (t52,o53,(x.2.2.1.1,x.2.2.1.2.1,()),(x.2.2.2.1.1,()),(x.2.2.2.2.1.1,()),(x.2.2.2.2.2.1.1,()),(x.2.2.2.2.2.2.1.1,()),(x.2.2.2.2.2.2.2.1.1,()),(x.2.2.2.2.2.2.2.2.1.1,()),false,())).bind fun y99=>match y99 with
 | .inl z93=>some (.inl (z93.1,z93.2.1,(z93.2.2.1.1,z93.2.2.1.2.1,()),(z93.2.2.2.1.1,()),(z93.2.2.2.2.1.1,()),()))
 | .inr z96=>some (.inr (z96.1,z96.2.1,(z96.2.2.1.1,z96.2.2.1.2.1,()),(z96.2.2.2.1.1,()),()))
def f28_61 (x:S9×Int×(List S8×Int×Unit)×(S9×Unit)×(S7×Unit)×(S2×Unit)×(S7×Unit)×(S2×Unit)×(Int×Unit)×Bool×Unit):Option ((S9×Int×(List S8×Int×Unit)×(S7×Unit)×(S7×Unit)×Unit)⊕(S9×Int×(List S8×Int×Unit)×(S7×Unit)×Unit)):=
 let t44:=x.1
 let o45:=x.2.1
 bif x.2.2.2.2.2.2.2.2.2.1 then bif beq x.2.2.2.2.2.2.2.1.1.1 20 then some (.inr (t44,o45,(x.2.2.1.1,x.2.2.1.2.1,()),((43,x.2.2.2.2.2.1.1.2.1,x.2.2.2.2.2.1.1.2.2.1,x.2.2.2.2.2.1.1.2.2.2.1,x.2.2.2.2.2.1.1.2.2.2.2,x.2.2.2.2.2.2.2.1.1.2.2.1,1),()),()))
 else some (.inr (t44,o45,(x.2.2.1.1,x.2.2.1.2.1,()),((43,x.2.2.2.2.2.1.1.2.1,x.2.2.2.2.2.1.1.2.2.1,x.2.2.2.2.2.1.1.2.2.2.1,x.2.2.2.2.2.1.1.2.2.2.2,x.2.2.2.2.2.2.2.1.1.2.2.1,0),()),()))
 else bif ((beq x.2.2.2.2.2.1.1.1 4)&&(beq x.2.2.2.2.2.2.2.1.1.1 18))&&(beq x.2.2.2.2.2.2.2.1.1.2.2.2.1 x.2.2.2.2.2.2.2.2.1.1) then (f69 (x.2.2.2.2.2.2.2.1.1.2.2.2.2,(x.2.2.2.2.2.1.1,()),(x.2.2.2.2.2.2.2.2.1.1,()),())).bind fun r51=>
 (f28_81 (t44,o45,(x.2.2.1.1,x.2.2.1.2.1,()),(x.2.2.2.1.1,()),(x.2.2.2.2.1.1,()),(r51.2.1.1,()),(x.2.2.2.2.2.2.1.1,()),(x.2.2.2.2.2.2.2.1.1,()),(r51.2.2.1.1,()),r51.1.1,())).bind fun y106=>match y106 with
 | .inl z100=>some (.inl (z100.1,z100.2.1,(z100.2.2.1.1,z100.2.2.1.2.1,()),(z100.2.2.2.1.1,()),(z100.2.2.2.2.1.1,()),()))
 | .inr z103=>some (.inr (z103.1,z103.2.1,(z103.2.2.1.1,z103.2.2.1.2.1,()),(z103.2.2.2.1.1,()),()))
 else (f28_81 (t44,o45,(x.2.2.1.1,x.2.2.1.2.1,()),(x.2.2.2.1.1,()),(x.2.2.2.2.1.1,()),(x.2.2.2.2.2.1.1,()),(x.2.2.2.2.2.2.1.1,()),(x.2.2.2.2.2.2.2.1.1,()),(x.2.2.2.2.2.2.2.2.1.1,()),false,())).bind fun y113=>match y113 with
 | .inl z107=>some (.inl (z107.1,z107.2.1,(z107.2.2.1.1,z107.2.2.1.2.1,()),(z107.2.2.2.1.1,()),(z107.2.2.2.2.1.1,()),()))
 | .inr z110=>some (.inr (z110.1,z110.2.1,(z110.2.2.1.1,z110.2.2.1.2.1,()),(z110.2.2.2.1.1,()),()))
def f28 (x:S9×Int×(List S8×Int×Unit)×Unit):Option ((S7×Unit)×((List S8×Int×Unit)×Unit)):=
 let t1:=x.1
 let o2:=x.2.1
 bif aE o2 t1.2.2.2.2.2.2.2.1.length then (f28_17 (t1,o2,(x.2.2.1.1,x.2.2.1.2.1,()),(t1,()),((0,0,0,0,0,0,0),()),(t1.2.2.2.2.2.2.2.1.getD o2.toNat aT,()),(((t1.2.2.2.2.2.2.2.1.getD o2.toNat aT).1,(t1.2.2.2.2.2.2.2.1.getD o2.toNat aT).2.1,(t1.2.2.2.2.2.2.2.1.getD o2.toNat aT).2.2.1,(t1.2.2.2.2.2.2.2.1.getD o2.toNat aT).2.2.2.1,(t1.2.2.2.2.2.2.2.1.getD o2.toNat aT).2.2.2.2,0,0),()),beq (t1.2.2.2.2.2.2.2.1.getD o2.toNat aT).1 42,())).bind fun y124=>match y124 with
 | .inl z32=>(
 let o34:=z32.2.1
 bif ble z32.2.2.2.1.1.2.2.2.2.2.2.2.1.length (wr (o34+1)) then some ((z32.2.2.2.2.2.2.1.1,()),(z32.2.2.1.1,z32.2.2.1.2.1,()),()) else let v38:=(wr (o34+1))
 bif aE v38 z32.2.2.2.1.1.2.2.2.2.2.2.2.1.length then let v39:=(wr ((-1 : Int) - z32.2.2.2.2.2.1.1.2.1))
 (f28_61 (z32.1,o34,(z32.2.2.1.1,z32.2.2.1.2.1,()),(z32.2.2.2.1.1,()),(z32.2.2.2.2.1.1,()),(z32.2.2.2.2.2.1.1,()),(z32.2.2.2.2.2.2.1.1,()),(z32.2.2.2.1.1.2.2.2.2.2.2.2.1.getD v38.toNat aT,()),(v39,()),(((beq z32.2.2.2.2.2.1.1.1 18)&&(ble 13 z32.2.2.2.2.2.1.1.2.2.1))&&((beq (z32.2.2.2.1.1.2.2.2.2.2.2.2.1.getD v38.toNat aT).1 20)||(beq (z32.2.2.2.1.1.2.2.2.2.2.2.2.1.getD v38.toNat aT).1 21)))&&(beq (z32.2.2.2.1.1.2.2.2.2.2.2.2.1.getD v38.toNat aT).2.1 v39),())).bind fun y120=>match y120 with
 | .inl z114=>some ((z114.2.2.2.2.1.1,()),(z114.2.2.1.1,z114.2.2.1.2.1,()),())
 | .inr z117=>some ((z117.2.2.2.1.1,()),(z117.2.2.1.1,z117.2.2.1.2.1,()),()) else none)
 | .inr z121=>some ((z121.2.2.2.1.1,()),(z121.2.2.1.1,z121.2.2.1.2.1,()),()) else none
def f8_36:Lp ((List S8×Int×Unit)×(List S8×Int×Unit)×(S9×Unit)×(List S7×Unit)×List S9×Int×Int×Int×Int×Unit) (((List S8×Int×Unit)×(List S8×Int×Unit)×(List S7×Unit)×List S9×Int×Int×Unit)):=fun x=>
 let v11:=x.2.2.2.2.1
 let v12:=x.2.2.2.2.2.1
 let v13:=x.2.2.2.2.2.2.1
 let v14:=x.2.2.2.2.2.2.2.1
 let v15:=x.2.2.2.2.2.2.2.2.1
 bif blt v15 v14 then (f28 (x.2.2.1.1,v15,(x.2.1.1,x.2.1.2.1,()),())).bind fun r17=>
 bif cN (x.2.2.2.1.1.length+([r17.1.1]).length) 2513169434916 then some (.inl ((x.1.1,x.1.2.1,()),(r17.2.1.1,r17.2.1.2.1,()),(x.2.2.1.1,()),(x.2.2.2.1.1++([r17.1.1]),()),v11,v12,v13,v14,wr (v15+1),()))
 else none else some (.inr ((x.1.1,x.1.2.1,()),(x.2.1.1,x.2.1.2.1,()),(x.2.2.2.1.1,()),v11,v12,v13,()))
def f8_20:Lp ((List S8×Int×Unit)×(List S8×Int×Unit)×List S9×Int×Int×Unit) (((List S8×Int×Unit)×(List S8×Int×Unit)×Unit)):=fun x=>
 let v5:=x.2.2.1
 let v6:=x.2.2.2.1
 let v7:=x.2.2.2.2.1
 bif blt v7 v6 then bif aE v7 v5.length then (aA f8_36 ((x.1.1,x.1.2.1,()),(x.2.1.1,x.2.1.2.1,()),(v5.getD v7.toNat P0,()),(([] : List S7),()),v5,v6,v7,((v5.getD v7.toNat P0).2.2.2.2.2.2.2.1.length : Int),0,())).bind fun z21=>
 let row25:=[z21.2.2.1.1]
 bif cN (z21.2.1.1.length+row25.length) 5864062014805 then some (.inl ((z21.1.1,z21.1.2.1,()),(z21.2.1.1++row25,z21.2.1.2.1,()),z21.2.2.2.1,z21.2.2.2.2.1,wr (z21.2.2.2.2.2.1+1),()))
 else none else none else some (.inr ((x.1.1,x.1.2.1,()),(x.2.1.1,x.2.1.2.1,()),()))
def f8 (x:aN×Unit):Option (((List S8×Int×Unit)×Unit)×(Unit)):=
 let c1:=x.1
 (f27 (c1,())).bind fun r2=>bif !((beq r2.1.1.1 0)&&((beq r2.1.1.2.1 0)&&((beq r2.1.1.2.2 0)&&true))) then some (((([] : List S8),0,()),()),())
 else (aA f8_20 ((([] : List S8),0,()),(([] : List S8),0,()),c1,(c1.length : Int),0,())).bind fun z28=>some (((z28.2.1.1,z28.2.1.2.1,()),()),())
def f145 (x:Nat×Nat×Unit):Option ((Bool×Unit)×(Unit)):=
 let a1:=x.1
 let b2:=x.2.1
 bif (dX a1 a1 != some .eq)||(dX b2 b2 != some .eq) then some (((dX a1 a1 != some .eq)&&(dX b2 b2 != some .eq),()),())
 else bif (dX a1 (0 : Nat) == some .eq)&&(dX b2 (0 : Nat) == some .eq) then (FloatKind.f64.format.div (4607182418800017408 : Nat) a1).bind fun v9=>
 (FloatKind.f64.format.div (4607182418800017408 : Nat) b2).bind fun v11=>some ((jF (dX v9 (0 : Nat) == some .gt) (dX v11 (0 : Nat) == some .gt),()),())
 else some ((dX a1 b2 == some .eq,()),())
def f95 (x:S1×S1×Unit):Option ((Bool×Unit)×(Unit)):=
 let a1:=x.1
 let b2:=x.2.1
 bif bne a1.1 b2.1 then some ((false,()),()) else bif bne a1.2.1 b2.2.1 then some ((false,()),()) else (f145 (a1.2.2.1,b2.2.2.1,())).bind fun r5=>bif !r5.1.1 then some ((false,()),())
 else bif !(jL a1.2.2.2.1 b2.2.2.2.1) then some ((false,()),()) else bif bne a1.2.2.2.2 b2.2.2.2.2 then some ((false,()),()) else some ((true,()),())
def f44_16:Lp (List S1×List S1×Int×Unit) (((Unit)⊕(Bool×Unit))):=fun x=>
 let a6:=x.1
 let b7:=x.2.1
 let i8:=x.2.2.1
 bif blt i8 a6.length then bif aE i8 a6.length then bif aE i8 b7.length then (f95 (a6.getD i8.toNat jI,b7.getD i8.toNat jI,())).bind fun r11=>
 bif !r11.1.1 then some (.inr (.inr (false,()))) else some (.inl (a6,b7,wr (i8+1),())) else none else none else some (.inr (.inl ()))
def f44 (x:List S1×List S1×Unit):Option ((Bool×Unit)×(Unit)):=
 let a1:=x.1
 let b2:=x.2.1
 bif bne a1.length b2.length then some ((false,()),()) else (aA f44_16 (a1,b2,0,())).bind fun y17=>match y17 with
 | .inl _=>some ((true,()),())
 | .inr z15=>some ((z15.1,()),())
def f176 (x:S0×S0×Unit):Option ((Bool×Unit)×(Unit)):=
 let a1:=x.1
 let b2:=x.2.1
 bif !(jF a1.1 b2.1) then some ((false,()),()) else bif bne a1.2 b2.2 then some ((false,()),()) else some ((true,()),())
def f136_16:Lp (List S0×List S0×Int×Unit) (((Unit)⊕(Bool×Unit))):=fun x=>
 let a6:=x.1
 let b7:=x.2.1
 let i8:=x.2.2.1
 bif blt i8 a6.length then bif aE i8 a6.length then bif aE i8 b7.length then (f176 (a6.getD i8.toNat U0,b7.getD i8.toNat U0,())).bind fun r11=>
 bif !r11.1.1 then some (.inr (.inr (false,()))) else some (.inl (a6,b7,wr (i8+1),())) else none else none else some (.inr (.inl ()))
def f136 (x:List S0×List S0×Unit):Option ((Bool×Unit)×(Unit)):=
 let a1:=x.1
 let b2:=x.2.1
 bif bne a1.length b2.length then some ((false,()),()) else (aA f136_16 (a1,b2,0,())).bind fun y17=>match y17 with
 | .inl _=>some ((true,()),())
 | .inr z15=>some ((z15.1,()),())
def f177 (x:S2×S2×Unit):Option ((Bool×Unit)×(Unit)):=
 let a1:=x.1
 let b2:=x.2.1
 bif bne a1.1 b2.1 then some ((false,()),()) else bif bne a1.2.1 b2.2.1 then some ((false,()),()) else bif bne a1.2.2.1 b2.2.2.1 then some ((false,()),())
 else bif bne a1.2.2.2.1 b2.2.2.2.1 then some ((false,()),()) else bif bne a1.2.2.2.2 b2.2.2.2.2 then some ((false,()),()) else some ((true,()),())
def f137_16:Lp (List S2×List S2×Int×Unit) (((Unit)⊕(Bool×Unit))):=fun x=>
 let a6:=x.1
 let b7:=x.2.1
 let i8:=x.2.2.1
 bif blt i8 a6.length then bif aE i8 a6.length then bif aE i8 b7.length then (f177 (a6.getD i8.toNat aT,b7.getD i8.toNat aT,())).bind fun r11=>
 bif !r11.1.1 then some (.inr (.inr (false,()))) else some (.inl (a6,b7,wr (i8+1),())) else none else none else some (.inr (.inl ()))
def f137 (x:List S2×List S2×Unit):Option ((Bool×Unit)×(Unit)):=
 let a1:=x.1
 let b2:=x.2.1
 bif bne a1.length b2.length then some ((false,()),()) else (aA f137_16 (a1,b2,0,())).bind fun y17=>match y17 with
 | .inl _=>some ((true,()),())
 | .inr z15=>some ((z15.1,()),())
def f178 (x:S3×S3×Unit):Option ((Bool×Unit)×(Unit)):=
 let a1:=x.1
 let b2:=x.2.1
 bif !(jL a1.1 b2.1) then some ((false,()),()) else bif bne a1.2.1 b2.2.1 then some ((false,()),()) else bif bne a1.2.2.1 b2.2.2.1 then some ((false,()),())
 else bif bne a1.2.2.2 b2.2.2.2 then some ((false,()),()) else some ((true,()),())
def f138_16:Lp (List S3×List S3×Int×Unit) (((Unit)⊕(Bool×Unit))):=fun x=>
 let a6:=x.1
 let b7:=x.2.1
 let i8:=x.2.2.1
 bif blt i8 a6.length then bif aE i8 a6.length then bif aE i8 b7.length then (f178 (a6.getD i8.toNat Dz3,b7.getD i8.toNat Dz3,())).bind fun r11=>
 bif !r11.1.1 then some (.inr (.inr (false,()))) else some (.inl (a6,b7,wr (i8+1),())) else none else none else some (.inr (.inl ()))
def f138 (x:List S3×List S3×Unit):Option ((Bool×Unit)×(Unit)):=
 let a1:=x.1
 let b2:=x.2.1
 bif bne a1.length b2.length then some ((false,()),()) else (aA f138_16 (a1,b2,0,())).bind fun y17=>match y17 with
 | .inl _=>some ((true,()),())
 | .inr z15=>some ((z15.1,()),())
def f71 (x:S9×S9×Unit):Option ((Bool×Unit)×(Unit)):=
 let a1:=x.1
 let b2:=x.2.1
 bif !(jL a1.1 b2.1) then some ((false,()),()) else bif bne a1.2.1 b2.2.1 then some ((false,()),()) else bif bne a1.2.2.1 b2.2.2.1 then some ((false,()),())
 else bif !(jF a1.2.2.2.1 b2.2.2.2.1) then some ((false,()),()) else bif bne a1.2.2.2.2.1 b2.2.2.2.2.1 then some ((false,()),()) else (f136 (a1.2.2.2.2.2.1,b2.2.2.2.2.2.1,())).bind fun r8=>
 bif !r8.1.1 then some ((false,()),()) else (f44 (a1.2.2.2.2.2.2.1,b2.2.2.2.2.2.2.1,())).bind fun r10=>bif !r10.1.1 then some ((false,()),())
 else (f137 (a1.2.2.2.2.2.2.2.1,b2.2.2.2.2.2.2.2.1,())).bind fun r12=>bif !r12.1.1 then some ((false,()),()) else (f138 (a1.2.2.2.2.2.2.2.2,b2.2.2.2.2.2.2.2.2,())).bind fun r14=>
 bif !r14.1.1 then some ((false,()),()) else some ((true,()),())
def f30_16:Lp (List S9×List S9×Int×Unit) (((Unit)⊕(Bool×Unit))):=fun x=>
 let a6:=x.1
 let b7:=x.2.1
 let i8:=x.2.2.1
 bif blt i8 a6.length then bif aE i8 a6.length then bif aE i8 b7.length then (f71 (a6.getD i8.toNat P0,b7.getD i8.toNat P0,())).bind fun r11=>
 bif !r11.1.1 then some (.inr (.inr (false,()))) else some (.inl (a6,b7,wr (i8+1),())) else none else none else some (.inr (.inl ()))
def f30 (x:List S9×List S9×Unit):Option ((Bool×Unit)×(Unit)):=
 let a1:=x.1
 let b2:=x.2.1
 bif bne a1.length b2.length then some ((false,()),()) else (aA f30_16 (a1,b2,0,())).bind fun y17=>match y17 with
 | .inl _=>some ((true,()),())
 | .inr z15=>some ((z15.1,()),())
def f10 (x:aN×aN×Unit):Option ((Bool×Unit)×(Unit)):=
 (f30 (x.1,x.2.1,())).bind fun r3=>bif !r3.1.1 then some ((false,()),()) else some ((true,()),())
def f72_16:Lp (Int×ByteArray×Unit) (ByteArray×Unit):=fun x=>
 let k3:=x.1
 let out4:=x.2.1
 bif blt 0 k3 then let v10:=(bytesOf ([IntKind.wrap .u8 (wr ((48 : Int)+(k3.tmod (10 : Int))))]))
 bif cN (v10.size+out4.size) 9223372036854775807 then some (.inl (wr (k3.tdiv (10 : Int)),v10++out4,())) else none else some (.inr (out4,()))
def f72 (x:Int×Unit):Option ((ByteArray×Unit)×(Unit)):=
 let k1:=x.1
 bif ble k1 0 then some (((⟨#[109,48]⟩ : ByteArray),()),()) else (aA f72_16 (k1,(⟨#[]⟩ : ByteArray),())).bind fun z13=>let out14:=z13.1
 bif cN ((⟨#[109]⟩ : ByteArray).size+out14.size) 9223372036854775807 then some (((⟨#[109]⟩ : ByteArray)++out14,()),()) else none
def f52_8:Lp (List S1×Int×Int×Unit) (List S1×Int×Unit):=fun x=>
 let a3:=x.1
 let k4:=x.2.1
 let i5:=x.2.2.1
 bif blt i5 a3.length then bif aE i5 a3.length then let row8:=(a3.set i5.toNat (k4,(a3.getD i5.toNat jI).2))
 let v9:=wr (k4+1)
 bif aE i5 row8.length then let row10:=(row8.set i5.toNat ((row8.getD i5.toNat jI).1,v9,(row8.getD i5.toNat jI).2.2))
 let v11:=wr (v9+1)
 bif aE i5 row10.length then let row13:=(row10.set i5.toNat ((row10.getD i5.toNat jI).1,(row10.getD i5.toNat jI).2.1,FloatKind.f64.nearest v11,(row10.getD i5.toNat jI).2.2.2))
 let v14:=wr (v11+1)
 (f72 (v14,())).bind fun r15=>
 bif aE i5 row13.length then let row16:=(row13.set i5.toNat ((row13.getD i5.toNat jI).1,(row13.getD i5.toNat jI).2.1,(row13.getD i5.toNat jI).2.2.1,r15.1.1,(row13.getD i5.toNat jI).2.2.2.2))
 let v17:=wr (v14+1)
 bif aE i5 row16.length then some (.inl (row16.set i5.toNat ((row16.getD i5.toNat jI).1,(row16.getD i5.toNat jI).2.1,(row16.getD i5.toNat jI).2.2.1,(row16.getD i5.toNat jI).2.2.2.1,v17),wr (v17+1),wr (i5+1),()))
 else none else none else none else none else none else some (.inr (a3,k4,()))
def f52 (x:List S1×Int×Unit):Option ((Int×Unit)×(List S1×Unit)):=
 (aA f52_8 (x.1,x.2.1,0,())).bind fun z21=>some ((z21.2.1,()),z21.1,())
def f73_8:Lp (List S0×Int×Int×Unit) (List S0×Int×Unit):=fun x=>
 let a3:=x.1
 let k4:=x.2.1
 let i5:=x.2.2.1
 bif blt i5 a3.length then bif aE i5 a3.length then let row10:=(a3.set i5.toNat (beq (k4.tmod (3 : Int)) 0,(a3.getD i5.toNat U0).2))
 let v11:=wr (k4+1)
 bif aE i5 row10.length then some (.inl (row10.set i5.toNat ((row10.getD i5.toNat U0).1,v11),wr (v11+1),wr (i5+1),())) else none else none else some (.inr (a3,k4,()))
def f73 (x:List S0×Int×Unit):Option ((Int×Unit)×(List S0×Unit)):=
 (aA f73_8 (x.1,x.2.1,0,())).bind fun z15=>some ((z15.2.1,()),z15.1,())
def f74_8:Lp (List S2×Int×Int×Unit) (List S2×Int×Unit):=fun x=>
 let a3:=x.1
 let k4:=x.2.1
 let i5:=x.2.2.1
 bif blt i5 a3.length then bif aE i5 a3.length then let row8:=(a3.set i5.toNat (k4,(a3.getD i5.toNat aT).2))
 let v9:=wr (k4+1)
 bif aE i5 row8.length then let row10:=(row8.set i5.toNat ((row8.getD i5.toNat aT).1,v9,(row8.getD i5.toNat aT).2.2))
 let v11:=wr (v9+1)
 bif aE i5 row10.length then let row12:=(row10.set i5.toNat ((row10.getD i5.toNat aT).1,(row10.getD i5.toNat aT).2.1,v11,(row10.getD i5.toNat aT).2.2.2))
 let v13:=wr (v11+1)
 bif aE i5 row12.length then let row14:=(row12.set i5.toNat ((row12.getD i5.toNat aT).1,(row12.getD i5.toNat aT).2.1,(row12.getD i5.toNat aT).2.2.1,v13,(row12.getD i5.toNat aT).2.2.2.2))
 let v15:=wr (v13+1)
 bif aE i5 row14.length then some (.inl (row14.set i5.toNat ((row14.getD i5.toNat aT).1,(row14.getD i5.toNat aT).2.1,(row14.getD i5.toNat aT).2.2.1,(row14.getD i5.toNat aT).2.2.2.1,v15),wr (v15+1),wr (i5+1),()))
 else none else none else none else none else none else some (.inr (a3,k4,()))
def f74 (x:List S2×Int×Unit):Option ((Int×Unit)×(List S2×Unit)):=
 (aA f74_8 (x.1,x.2.1,0,())).bind fun z19=>some ((z19.2.1,()),z19.1,())
def f75_8:Lp (List S3×Int×Int×Unit) (List S3×Int×Unit):=fun x=>
 let a3:=x.1
 let k4:=x.2.1
 let i5:=x.2.2.1
 bif blt i5 a3.length then (f72 (k4,())).bind fun r8=>bif aE i5 a3.length then let row9:=(a3.set i5.toNat (r8.1.1,(a3.getD i5.toNat Dz3).2))
 let v10:=wr (k4+1)
 bif aE i5 row9.length then let row11:=(row9.set i5.toNat ((row9.getD i5.toNat Dz3).1,v10,(row9.getD i5.toNat Dz3).2.2))
 let v12:=wr (v10+1)
 bif aE i5 row11.length then let row13:=(row11.set i5.toNat ((row11.getD i5.toNat Dz3).1,(row11.getD i5.toNat Dz3).2.1,v12,(row11.getD i5.toNat Dz3).2.2.2))
 let v14:=wr (v12+1)
 bif aE i5 row13.length then some (.inl (row13.set i5.toNat ((row13.getD i5.toNat Dz3).1,(row13.getD i5.toNat Dz3).2.1,(row13.getD i5.toNat Dz3).2.2.1,v14),wr (v14+1),wr (i5+1),()))
 else none else none else none else none else some (.inr (a3,k4,()))
def f75 (x:List S3×Int×Unit):Option ((Int×Unit)×(List S3×Unit)):=
 (aA f75_8 (x.1,x.2.1,0,())).bind fun z18=>some ((z18.2.1,()),z18.1,())
def f31_8:Lp (List S9×Int×Int×Unit) (List S9×Int×Unit):=fun x=>
 let a3:=x.1
 let k4:=x.2.1
 let i5:=x.2.2.1
 bif blt i5 a3.length then (f72 (k4,())).bind fun r8=>bif aE i5 a3.length then let row9:=(put0 a3 i5 r8.1.1)
 let v10:=wr (k4+1)
 bif aE i5 row9.length then let row11:=(put1 row9 i5 v10)
 let v12:=wr (v10+1)
 bif aE i5 row11.length then let row13:=(put2 row11 i5 v12)
 let v14:=wr (v12+1)
 bif aE i5 row13.length then let row17:=(put3 row13 i5 (beq (v14.tmod (3 : Int)) 0))
 let v18:=wr (v14+1)
 bif aE i5 row17.length then let row19:=(put4 row17 i5 v18)
 bif aE i5 row19.length then (f73 ((row19.getD i5.toNat P0).2.2.2.2.2.1,wr (v18+1),())).bind fun r21=>
 bif aE i5 row19.length then (f52 ((row19.getD i5.toNat P0).2.2.2.2.2.2.1,r21.1.1,())).bind fun r22=>
 bif aE i5 row19.length then (f74 ((row19.getD i5.toNat P0).2.2.2.2.2.2.2.1,r22.1.1,())).bind fun r23=>
 bif aE i5 row19.length then (f75 ((row19.getD i5.toNat P0).2.2.2.2.2.2.2.2,r23.1.1,())).bind fun r24=>
 some (.inl (put8 (put7 (put6 (put5 row19 i5 r24.2.1) i5 r23.2.1) i5 r22.2.1) i5 r21.2.1,r24.1.1,wr (i5+1),())) else none else none else none else none else none else none else none else none
 else none else some (.inr (a3,k4,()))
def f31 (x:List S9×Int×Unit):Option ((Int×Unit)×(List S9×Unit)):=
 (aA f31_8 (x.1,x.2.1,0,())).bind fun z26=>some ((z26.2.1,()),z26.1,())
def f11 (x:(List S9×Unit)×Int×Unit):Option ((Int×Unit)×((List S9×Unit)×Unit)):=
 (f31 (x.1.1,x.2.1,())).bind fun r2=>some ((r2.1.1,()),(r2.2.1,()),())
end
end Go.Ev.L6
