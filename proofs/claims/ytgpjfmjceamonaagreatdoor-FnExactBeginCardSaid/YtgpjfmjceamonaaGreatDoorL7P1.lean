/-
  Begin: contracts.
-/
import Derived.Test.YtgpjfmjceamonaaGreatDoorL7P0
namespace Go.Ev.L7
open Go.Proofs
open Go.Ev.L6 (con10 con11 con24 con25 con27 con44 con5 iY con7 bX con8 con95)
theorem o40_12 : PD 0 94 (bd Tryz.f40) ⟨12,⟨[1,2,3,13,14,15],[.box 53 [.sc Y22] 0,.box 53 k16 0,.deep 156 Z4 false,.val (.row Y12),.val ti,.val ti],[]⟩,[((.exit 0),⟨[1,2,3],[.box 53 [.sc Y22] 0,.box 53 k16 0,.deep 156 Z4 false],[]⟩)],aA f40_12⟩:=lD (hc con89 (hc con90 (hc con91 hn))) o0 (by kernel_rfl) fun _=>by kernel_rfl
theorem o40_68 : PD 0 94 (ia (bd Tryz.f40) 52) ⟨68,⟨[1,2,6,8,9,41,42,43,48,49,50],[.box 53 k17 0,.box 53 k16 0,.deep 165 Z11 false,.box 165 [.sc Y19] 0,.deep 173 Z10 false,.val (.row Y19),.val ti,.val ti,.val (.row Y18),.val ti,.val ti],[]⟩,[((.exit 4),⟨[1,2,6,8,9,41,42,43],[.box 53 k17 0,.box 53 k16 0,.deep 165 Z11 false,.box 165 [.sc Y19] 0,.deep 173 Z10 false,.val (.row Y19),.val ti,.val ti],[]⟩)],aA f40_68⟩:=lD (hc con89 (hc con90 (hc con91 hn))) o0 (by kernel_rfl) fun _=>by kernel_rfl
theorem o40_52 : PD 0 94 (bd Tryz.f40) ⟨52,⟨[1,2,6,41,42,43],[.box 53 k17 0,.box 53 k16 0,.deep 165 Z11 false,.val (.row Y19),.val ti,.val ti],[]⟩,[((.exit 2),⟨[1,2,6],[.box 53 k17 0,.box 53 k16 0,.deep 165 Z11 false],[]⟩)],aA f40_52⟩:=lD (hc con89 (hc con90 (hc con91 hn))) (o1 o40_68 o0) (by kernel_rfl) fun _=>by kernel_rfl
theorem con40 : CE 40 ⟨[.val Y22],[.rc k16],f40⟩:=cD (n:=94) (hc con89 (hc con90 (hc con91 hn))) Tryz.func40 (o1 o40_12 (o1 o40_52 o0)) (by kernel_rfl) fun _=>by kernel_rfl
theorem con17 : CE 17 ⟨[.val Y5,.val Y9,.val ti],[.rc k16],f17⟩:=cD (n:=20) (hc con39 (hc con40 hn)) Tryz.func17 o0 (by kernel_rfl) fun _=>by kernel_rfl
theorem con1017 : CE 17 ⟨[.val Y5,.val Y9,.val ti],[.rc k16],f1017⟩:=cD (n:=20) (hc con1039 hn) Tryz.func17 o0 (by kernel_rfl) fun _=>by kernel_rfl
theorem con185 : CE 185 ⟨[.val Y10,.val Y10],[.val .bool],f185⟩:=cE (n:=22) (hc con95 hn) Tryz.func185 o0 (by kernel_rfl) fun _=>by kernel_rfl
theorem o179_16 : PE 0 27 (bd Tryz.f179) ⟨16,⟨[0,1,5],[.val (.row Y10),.val (.row Y10),.val ti],[]⟩,[((.exit 0),⟨[],[],[]⟩),(.ret,⟨[4],[.val .bool],[]⟩)],aA f179_16⟩:=lE (hc con185 hn) o0 (by kernel_rfl) fun _=>by kernel_rfl
theorem con179 : CE 179 ⟨[.val (.row Y10),.val (.row Y10)],[.val .bool],f179⟩:=cE (n:=27) (hc con185 hn) Tryz.func179 (o1 o179_16 o0) (by kernel_rfl) fun _=>by kernel_rfl
theorem con142 : CE 142 ⟨[.val Y11,.val Y11],[.val .bool],f142⟩:=cE (n:=16) (hc con179 hn) Tryz.func142 o0 (by kernel_rfl) fun _=>by kernel_rfl
theorem o143_16 : PE 0 26 (bd Tryz.f143) ⟨16,⟨[0,1,5],[.val (.row ti),.val (.row ti),.val ti],[]⟩,[((.exit 0),⟨[],[],[]⟩),(.ret,⟨[4],[.val .bool],[]⟩)],aA f143_16⟩:=lE hn o0 (by kernel_rfl) fun _=>by kernel_rfl
theorem con143 : CE 143 ⟨[.val (.row ti),.val (.row ti)],[.val .bool],f143⟩:=cE (n:=26) hn Tryz.func143 (o1 o143_16 o0) (by kernel_rfl) fun _=>by kernel_rfl
theorem con92 : CE 92 ⟨[.val Y12,.val Y12],[.val .bool],f92⟩:=cE (n:=53) (hc con95 (hc con142 (hc con143 hn))) Tryz.func92 o0 (by kernel_rfl) fun _=>by kernel_rfl
theorem o41_16 : PE 0 27 (bd Tryz.f41) ⟨16,⟨[0,1,5],[.val (.row Y12),.val (.row Y12),.val ti],[]⟩,[((.exit 0),⟨[],[],[]⟩),(.ret,⟨[4],[.val .bool],[]⟩)],aA f41_16⟩:=lE (hc con92 hn) o0 (by kernel_rfl) fun _=>by kernel_rfl
theorem con41 : CE 41 ⟨[.val (.row Y12),.val (.row Y12)],[.val .bool],f41⟩:=cE (n:=27) (hc con92 hn) Tryz.func41 (o1 o41_16 o0) (by kernel_rfl) fun _=>by kernel_rfl
theorem con93 : CE 93 ⟨[.val Y13,.val Y13],[.val .bool],f93⟩:=cE (n:=15) hn Tryz.func93 o0 (by kernel_rfl) fun _=>by kernel_rfl
theorem o42_16 : PE 0 27 (bd Tryz.f42) ⟨16,⟨[0,1,5],[.val (.row Y13),.val (.row Y13),.val ti],[]⟩,[((.exit 0),⟨[],[],[]⟩),(.ret,⟨[4],[.val .bool],[]⟩)],aA f42_16⟩:=lE (hc con93 hn) o0 (by kernel_rfl) fun _=>by kernel_rfl
theorem con42 : CE 42 ⟨[.val (.row Y13),.val (.row Y13)],[.val .bool],f42⟩:=cE (n:=27) (hc con93 hn) Tryz.func42 (o1 o42_16 o0) (by kernel_rfl) fun _=>by kernel_rfl
theorem con45 : CE 45 ⟨[.val Y17,.val Y17],[.val .bool],f45⟩:=cE (n:=21) (hc con44 hn) Tryz.func45 o0 (by kernel_rfl) fun _=>by kernel_rfl
theorem con189 : CE 189 ⟨[.val Y14,.val Y14],[.val .bool],f189⟩:=cE (n:=27) (hc con44 (hc con95 hn)) Tryz.func189 o0 (by kernel_rfl) fun _=>by kernel_rfl
theorem o186_16 : PE 0 27 (bd Tryz.f186) ⟨16,⟨[0,1,5],[.val (.row Y14),.val (.row Y14),.val ti],[]⟩,[((.exit 0),⟨[],[],[]⟩),(.ret,⟨[4],[.val .bool],[]⟩)],aA f186_16⟩:=lE (hc con189 hn) o0 (by kernel_rfl) fun _=>by kernel_rfl
theorem con186 : CE 186 ⟨[.val (.row Y14),.val (.row Y14)],[.val .bool],f186⟩:=cE (n:=27) (hc con189 hn) Tryz.func186 (o1 o186_16 o0) (by kernel_rfl) fun _=>by kernel_rfl
theorem con192 : CE 192 ⟨[.val Y15,.val Y15],[.val .bool],f192⟩:=cE (n:=16) (hc con44 hn) Tryz.func192 o0 (by kernel_rfl) fun _=>by kernel_rfl
theorem o191_16 : PE 0 27 (bd Tryz.f191) ⟨16,⟨[0,1,5],[.val (.row Y15),.val (.row Y15),.val ti],[]⟩,[((.exit 0),⟨[],[],[]⟩),(.ret,⟨[4],[.val .bool],[]⟩)],aA f191_16⟩:=lE (hc con192 hn) o0 (by kernel_rfl) fun _=>by kernel_rfl
theorem con191 : CE 191 ⟨[.val (.row Y15),.val (.row Y15)],[.val .bool],f191⟩:=cE (n:=27) (hc con192 hn) Tryz.func191 (o1 o191_16 o0) (by kernel_rfl) fun _=>by kernel_rfl
theorem con190 : CE 190 ⟨[.val Y16,.val Y16],[.val .bool],f190⟩:=cE (n:=31) (hc con191 hn) Tryz.func190 o0 (by kernel_rfl) fun _=>by kernel_rfl
theorem o187_16 : PE 0 27 (bd Tryz.f187) ⟨16,⟨[0,1,5],[.val (.row Y16),.val (.row Y16),.val ti],[]⟩,[((.exit 0),⟨[],[],[]⟩),(.ret,⟨[4],[.val .bool],[]⟩)],aA f187_16⟩:=lE (hc con190 hn) o0 (by kernel_rfl) fun _=>by kernel_rfl
theorem con187 : CE 187 ⟨[.val (.row Y16),.val (.row Y16)],[.val .bool],f187⟩:=cE (n:=27) (hc con190 hn) Tryz.func187 (o1 o187_16 o0) (by kernel_rfl) fun _=>by kernel_rfl
theorem con180 : CE 180 ⟨[.val Y18,.val Y18],[.val .bool],f180⟩:=cE (n:=89) (hc con44 (hc con45 (hc con186 (hc con187 hn)))) Tryz.func180 o0 (by kernel_rfl) fun _=>by kernel_rfl
theorem o144_16 : PE 0 27 (bd Tryz.f144) ⟨16,⟨[0,1,5],[.val (.row Y18),.val (.row Y18),.val ti],[]⟩,[((.exit 0),⟨[],[],[]⟩),(.ret,⟨[4],[.val .bool],[]⟩)],aA f144_16⟩:=lE (hc con180 hn) o0 (by kernel_rfl) fun _=>by kernel_rfl
theorem con144 : CE 144 ⟨[.val (.row Y18),.val (.row Y18)],[.val .bool],f144⟩:=cE (n:=27) (hc con180 hn) Tryz.func144 (o1 o144_16 o0) (by kernel_rfl) fun _=>by kernel_rfl
theorem con94 : CE 94 ⟨[.val Y19,.val Y19],[.val .bool],f94⟩:=cE (n:=38) (hc con44 (hc con95 (hc con144 hn))) Tryz.func94 o0 (by kernel_rfl) fun _=>by kernel_rfl
theorem o43_16 : PE 0 27 (bd Tryz.f43) ⟨16,⟨[0,1,5],[.val (.row Y19),.val (.row Y19),.val ti],[]⟩,[((.exit 0),⟨[],[],[]⟩),(.ret,⟨[4],[.val .bool],[]⟩)],aA f43_16⟩:=lE (hc con94 hn) o0 (by kernel_rfl) fun _=>by kernel_rfl
theorem con43 : CE 43 ⟨[.val (.row Y19),.val (.row Y19)],[.val .bool],f43⟩:=cE (n:=27) (hc con94 hn) Tryz.func43 (o1 o43_16 o0) (by kernel_rfl) fun _=>by kernel_rfl
theorem o47_16 : PE 0 26 (bd Tryz.f47) ⟨16,⟨[0,1,5],[.val (.row .str),.val (.row .str),.val ti],[]⟩,[((.exit 0),⟨[],[],[]⟩),(.ret,⟨[4],[.val .bool],[]⟩)],aA f47_16⟩:=lE hn o0 (by kernel_rfl) fun _=>by kernel_rfl
theorem con47 : CE 47 ⟨[.val (.row .str),.val (.row .str)],[.val .bool],f47⟩:=cE (n:=26) hn Tryz.func47 (o1 o47_16 o0) (by kernel_rfl) fun _=>by kernel_rfl
theorem con146 : CE 146 ⟨[.val Y20,.val Y20],[.val .bool],f146⟩:=cE (n:=30) hn Tryz.func146 o0 (by kernel_rfl) fun _=>by kernel_rfl
theorem o96_16 : PE 0 27 (bd Tryz.f96) ⟨16,⟨[0,1,5],[.val (.row Y20),.val (.row Y20),.val ti],[]⟩,[((.exit 0),⟨[],[],[]⟩),(.ret,⟨[4],[.val .bool],[]⟩)],aA f96_16⟩:=lE (hc con146 hn) o0 (by kernel_rfl) fun _=>by kernel_rfl
theorem con96 : CE 96 ⟨[.val (.row Y20),.val (.row Y20)],[.val .bool],f96⟩:=cE (n:=27) (hc con146 hn) Tryz.func96 (o1 o96_16 o0) (by kernel_rfl) fun _=>by kernel_rfl
theorem con46 : CE 46 ⟨[.val Y21,.val Y21],[.val .bool],f46⟩:=cE (n:=42) (hc con47 (hc con96 hn)) Tryz.func46 o0 (by kernel_rfl) fun _=>by kernel_rfl
theorem con18 : CE 18 ⟨[.val Y22,.val Y22],[.val .bool],f18⟩:=cE (n:=106) (hc con41 (hc con42 (hc con43 (hc con44 (hc con45 (hc con46 hn)))))) Tryz.func18 o0 (by kernel_rfl) fun _=>by kernel_rfl
theorem con19 : CE 19 ⟨[.val Y9,.val Y9],[.val .bool],f19⟩:=cE (n:=32) (hc con47 hn) Tryz.func19 o0 (by kernel_rfl) fun _=>by kernel_rfl
theorem o48_8 : PD 1 20 (bd Tryz.f48) ⟨8,⟨[0,1,5],[.own 9 .str,.val ti,.val ti],[]⟩,[((.exit 0),⟨[0,1],[.own 9 .str,.val ti],[]⟩)],aA f48_8⟩:=lD (hc bX hn) o0 (by kernel_rfl) fun _=>by kernel_rfl
theorem con48 : CE 48 ⟨[.own 9 .str,.val ti],[.val ti],f48⟩:=cD (n:=20) (hc bX hn) Tryz.func48 (o1 o48_8 o0) (by kernel_rfl) fun _=>by kernel_rfl
theorem con20 : CE 20 ⟨[.lent k10,.val ti],[.val ti],f20⟩:=cD (n:=14) (hc con48 hn) Tryz.func20 o0 (by kernel_rfl) fun _=>by kernel_rfl
theorem o97_8 : PD 1 104 (bd Tryz.f97) ⟨8,⟨[0,1,5],[.own 240 Y10,.val ti,.val ti],[]⟩,[((.exit 0),⟨[0,1],[.own 240 Y10,.val ti],[]⟩)],aA f97_8⟩:=lD (hc bX hn) o0 (by kernel_rfl) fun _=>by kernel_rfl
theorem con97 : CE 97 ⟨[.own 240 Y10,.val ti],[.val ti],f97⟩:=cD (n:=104) (hc bX hn) Tryz.func97 (o1 o97_8 o0) (by kernel_rfl) fun _=>by kernel_rfl
theorem o98_8 : PD 1 19 (bd Tryz.f98) ⟨8,⟨[0,1,5],[.own 3 ti,.val ti,.val ti],[]⟩,[((.exit 0),⟨[0,1],[.own 3 ti,.val ti],[]⟩)],aA f98_8⟩:=lD hn o0 (by kernel_rfl) fun _=>by kernel_rfl
theorem con98 : CE 98 ⟨[.own 3 ti,.val ti],[.val ti],f98⟩:=cD (n:=19) hn Tryz.func98 (o1 o98_8 o0) (by kernel_rfl) fun _=>by kernel_rfl
theorem o49_8 : PD 1 122 (bd Tryz.f49) ⟨8,⟨[0,1,5],[.deep 156 Z4 true,.val ti,.val ti],[]⟩,[((.exit 0),⟨[0,1],[.deep 156 Z4 true,.val ti],[]⟩)],aA f49_8⟩:=lD (hc bX (hc con97 (hc con98 hn))) o0 (by kernel_rfl) fun _=>by kernel_rfl
theorem con49 : CE 49 ⟨[.deep 156 Z4 true,.val ti],[.val ti],f49⟩:=cD (n:=122) (hc bX (hc con97 (hc con98 hn))) Tryz.func49 (o1 o49_8 o0) (by kernel_rfl) fun _=>by kernel_rfl
theorem o50_8 : PD 1 27 (bd Tryz.f50) ⟨8,⟨[0,1,5],[.own 159 Y13,.val ti,.val ti],[]⟩,[((.exit 0),⟨[0,1],[.own 159 Y13,.val ti],[]⟩)],aA f50_8⟩:=lD hn o0 (by kernel_rfl) fun _=>by kernel_rfl
theorem con50 : CE 50 ⟨[.own 159 Y13,.val ti],[.val ti],f50⟩:=cD (n:=27) hn Tryz.func50 (o1 o50_8 o0) (by kernel_rfl) fun _=>by kernel_rfl
theorem o147_8 : PD 1 76 (bd Tryz.f147) ⟨8,⟨[0,1,5],[.deep 244 Z6 true,.val ti,.val ti],[]⟩,[((.exit 0),⟨[0,1],[.deep 244 Z6 true,.val ti],[]⟩)],aA f147_8⟩:=lD (hc iY (hc bX hn)) o0 (by kernel_rfl) fun _=>by kernel_rfl
theorem con147 : CE 147 ⟨[.deep 244 Z6 true,.val ti],[.val ti],f147⟩:=cD (n:=76) (hc iY (hc bX hn)) Tryz.func147 (o1 o147_8 o0) (by kernel_rfl) fun _=>by kernel_rfl
theorem o181_8 : PD 1 27 (bd Tryz.f181) ⟨8,⟨[0,1,5],[.deep 254 Z7 true,.val ti,.val ti],[]⟩,[((.exit 0),⟨[0,1],[.deep 254 Z7 true,.val ti],[]⟩)],aA f181_8⟩:=lD (hc iY hn) o0 (by kernel_rfl) fun _=>by kernel_rfl
theorem con181 : CE 181 ⟨[.deep 254 Z7 true,.val ti],[.val ti],f181⟩:=cD (n:=27) (hc iY hn) Tryz.func181 (o1 o181_8 o0) (by kernel_rfl) fun _=>by kernel_rfl
theorem o148_8 : PD 1 50 (bd Tryz.f148) ⟨8,⟨[0,1,5],[.deep 250 Z8 true,.val ti,.val ti],[]⟩,[((.exit 0),⟨[0,1],[.deep 250 Z8 true,.val ti],[]⟩)],aA f148_8⟩:=lD (hc con181 hn) o0 (by kernel_rfl) fun _=>by kernel_rfl
theorem con148 : CE 148 ⟨[.deep 250 Z8 true,.val ti],[.val ti],f148⟩:=cD (n:=50) (hc con181 hn) Tryz.func148 (o1 o148_8 o0) (by kernel_rfl) fun _=>by kernel_rfl
theorem o99_8 : PD 1 149 (bd Tryz.f99) ⟨8,⟨[0,1,5],[.deep 173 Z10 true,.val ti,.val ti],[]⟩,[((.exit 0),⟨[0,1],[.deep 173 Z10 true,.val ti],[]⟩)],aA f99_8⟩:=lD (hc iY (hc bX (hc con147 (hc con148 hn)))) o0 (by kernel_rfl) fun _=>by kernel_rfl
theorem con99 : CE 99 ⟨[.deep 173 Z10 true,.val ti],[.val ti],f99⟩:=cD (n:=149) (hc iY (hc bX (hc con147 (hc con148 hn)))) Tryz.func99 (o1 o99_8 o0) (by kernel_rfl) fun _=>by kernel_rfl
theorem o51_8 : PD 1 92 (bd Tryz.f51) ⟨8,⟨[0,1,5],[.deep 165 Z11 true,.val ti,.val ti],[]⟩,[((.exit 0),⟨[0,1],[.deep 165 Z11 true,.val ti],[]⟩)],aA f51_8⟩:=lD (hc iY (hc bX (hc con99 hn))) o0 (by kernel_rfl) fun _=>by kernel_rfl
theorem con51 : CE 51 ⟨[.deep 165 Z11 true,.val ti],[.val ti],f51⟩:=cD (n:=92) (hc iY (hc bX (hc con99 hn))) Tryz.func51 (o1 o51_8 o0) (by kernel_rfl) fun _=>by kernel_rfl
end Go.Ev.L7
