/-
  Begin: contracts.
-/
import Derived.Test.YtgpjfmjceamonaaGreatDoorL7P1
namespace Go.Ev.L7
open Go.Proofs
open Go.Ev.L6 (con10 con11 con24 con25 con27 con44 con5 iY con7 bX con8 con95)
theorem con53 : CE 53 ⟨[.lent [.sc ti,.own 128 Y1,.sc .str],.val ti],[.val ti],f53⟩:=cD (n:=10) (hc iY hn) Tryz.func53 o0 (by kernel_rfl) fun _=>by kernel_rfl
theorem o100_8 : PD 1 49 (bd Tryz.f100) ⟨8,⟨[0,1,5],[.own 238 Y20,.val ti,.val ti],[]⟩,[((.exit 0),⟨[0,1],[.own 238 Y20,.val ti],[]⟩)],aA f100_8⟩:=lD (hc bX hn) o0 (by kernel_rfl) fun _=>by kernel_rfl
theorem con100 : CE 100 ⟨[.own 238 Y20,.val ti],[.val ti],f100⟩:=cD (n:=49) (hc bX hn) Tryz.func100 (o1 o100_8 o0) (by kernel_rfl) fun _=>by kernel_rfl
theorem con54 : CE 54 ⟨[.lent k0,.val ti],[.val ti],f54⟩:=cD (n:=14) (hc con48 (hc con100 hn)) Tryz.func54 o0 (by kernel_rfl) fun _=>by kernel_rfl
theorem con21 : CE 21 ⟨[.lent k16,.val ti],[.val ti],f21⟩:=cD (n:=30) (hc con49 (hc con50 (hc con51 (hc iY (hc con53 (hc con54 hn)))))) Tryz.func21 o0 (by kernel_rfl) fun _=>by kernel_rfl
theorem o101_8 : PE 0 126 (bd Tryz.f101) ⟨8,⟨[0,1,5],[.val (.row Y10),.val ti,.val ti],[]⟩,[((.exit 0),⟨[1],[.val ti],[]⟩),(.ret,⟨[4],[.val ti],[]⟩)],aA f101_8⟩:=lE (hc bX hn) o0 (by kernel_rfl) fun _=>by kernel_rfl
theorem con101 : CE 101 ⟨[.val (.row Y10),.val ti],[.val ti],f101⟩:=cE (n:=126) (hc bX hn) Tryz.func101 (o1 o101_8 o0) (by kernel_rfl) fun _=>by kernel_rfl
theorem o102_8 : PE 0 21 (bd Tryz.f102) ⟨8,⟨[0,1,5],[.val (.row ti),.val ti,.val ti],[]⟩,[((.exit 0),⟨[1],[.val ti],[]⟩),(.ret,⟨[4],[.val ti],[]⟩)],aA f102_8⟩:=lE hn o0 (by kernel_rfl) fun _=>by kernel_rfl
theorem con102 : CE 102 ⟨[.val (.row ti),.val ti],[.val ti],f102⟩:=cE (n:=21) hn Tryz.func102 (o1 o102_8 o0) (by kernel_rfl) fun _=>by kernel_rfl
theorem o55_8 : PE 0 150 (bd Tryz.f55) ⟨8,⟨[0,1,5],[.val (.row Y12),.val ti,.val ti],[]⟩,[((.exit 0),⟨[1],[.val ti],[]⟩),(.ret,⟨[4],[.val ti],[]⟩)],aA f55_8⟩:=lE (hc bX (hc con101 (hc con102 hn))) o0 (by kernel_rfl) fun _=>by kernel_rfl
theorem con55 : CE 55 ⟨[.val (.row Y12),.val ti],[.val ti],f55⟩:=cE (n:=150) (hc bX (hc con101 (hc con102 hn))) Tryz.func55 (o1 o55_8 o0) (by kernel_rfl) fun _=>by kernel_rfl
theorem o56_8 : PE 0 31 (bd Tryz.f56) ⟨8,⟨[0,1,5],[.val (.row Y13),.val ti,.val ti],[]⟩,[((.exit 0),⟨[1],[.val ti],[]⟩),(.ret,⟨[4],[.val ti],[]⟩)],aA f56_8⟩:=lE hn o0 (by kernel_rfl) fun _=>by kernel_rfl
theorem con56 : CE 56 ⟨[.val (.row Y13),.val ti],[.val ti],f56⟩:=cE (n:=31) hn Tryz.func56 (o1 o56_8 o0) (by kernel_rfl) fun _=>by kernel_rfl
theorem o58_8 : PE 0 60 (bd Tryz.f58) ⟨8,⟨[0,1,5],[.val (.row Y1),.val ti,.val ti],[]⟩,[((.exit 0),⟨[1],[.val ti],[]⟩),(.ret,⟨[4],[.val ti],[]⟩)],aA f58_8⟩:=lE (hc bX hn) o0 (by kernel_rfl) fun _=>by kernel_rfl
theorem con58 : CE 58 ⟨[.val (.row Y1),.val ti],[.val ti],f58⟩:=cE (n:=60) (hc bX hn) Tryz.func58 (o1 o58_8 o0) (by kernel_rfl) fun _=>by kernel_rfl
theorem o149_8 : PE 0 92 (bd Tryz.f149) ⟨8,⟨[0,1,5],[.val (.row Y14),.val ti,.val ti],[]⟩,[((.exit 0),⟨[1],[.val ti],[]⟩),(.ret,⟨[4],[.val ti],[]⟩)],aA f149_8⟩:=lE (hc con58 (hc bX hn)) o0 (by kernel_rfl) fun _=>by kernel_rfl
theorem con149 : CE 149 ⟨[.val (.row Y14),.val ti],[.val ti],f149⟩:=cE (n:=92) (hc con58 (hc bX hn)) Tryz.func149 (o1 o149_8 o0) (by kernel_rfl) fun _=>by kernel_rfl
theorem o182_8 : PE 0 31 (bd Tryz.f182) ⟨8,⟨[0,1,5],[.val (.row Y15),.val ti,.val ti],[]⟩,[((.exit 0),⟨[1],[.val ti],[]⟩),(.ret,⟨[4],[.val ti],[]⟩)],aA f182_8⟩:=lE (hc con58 hn) o0 (by kernel_rfl) fun _=>by kernel_rfl
theorem con182 : CE 182 ⟨[.val (.row Y15),.val ti],[.val ti],f182⟩:=cE (n:=31) (hc con58 hn) Tryz.func182 (o1 o182_8 o0) (by kernel_rfl) fun _=>by kernel_rfl
theorem o150_8 : PE 0 60 (bd Tryz.f150) ⟨8,⟨[0,1,5],[.val (.row Y16),.val ti,.val ti],[]⟩,[((.exit 0),⟨[1],[.val ti],[]⟩),(.ret,⟨[4],[.val ti],[]⟩)],aA f150_8⟩:=lE (hc con182 hn) o0 (by kernel_rfl) fun _=>by kernel_rfl
theorem con150 : CE 150 ⟨[.val (.row Y16),.val ti],[.val ti],f150⟩:=cE (n:=60) (hc con182 hn) Tryz.func150 (o1 o150_8 o0) (by kernel_rfl) fun _=>by kernel_rfl
theorem o103_8 : PE 0 185 (bd Tryz.f103) ⟨8,⟨[0,1,5],[.val (.row Y18),.val ti,.val ti],[]⟩,[((.exit 0),⟨[1],[.val ti],[]⟩),(.ret,⟨[4],[.val ti],[]⟩)],aA f103_8⟩:=lE (hc con58 (hc bX (hc con149 (hc con150 hn)))) o0 (by kernel_rfl) fun _=>by kernel_rfl
theorem con103 : CE 103 ⟨[.val (.row Y18),.val ti],[.val ti],f103⟩:=cE (n:=185) (hc con58 (hc bX (hc con149 (hc con150 hn)))) Tryz.func103 (o1 o103_8 o0) (by kernel_rfl) fun _=>by kernel_rfl
theorem o57_8 : PE 0 112 (bd Tryz.f57) ⟨8,⟨[0,1,5],[.val (.row Y19),.val ti,.val ti],[]⟩,[((.exit 0),⟨[1],[.val ti],[]⟩),(.ret,⟨[4],[.val ti],[]⟩)],aA f57_8⟩:=lE (hc con58 (hc bX (hc con103 hn))) o0 (by kernel_rfl) fun _=>by kernel_rfl
theorem con57 : CE 57 ⟨[.val (.row Y19),.val ti],[.val ti],f57⟩:=cE (n:=112) (hc con58 (hc bX (hc con103 hn))) Tryz.func57 (o1 o57_8 o0) (by kernel_rfl) fun _=>by kernel_rfl
theorem con59 : CE 59 ⟨[.val Y17,.val ti],[.val ti],f59⟩:=cE (n:=12) (hc con58 hn) Tryz.func59 o0 (by kernel_rfl) fun _=>by kernel_rfl
theorem o104_8 : PE 0 59 (bd Tryz.f104) ⟨8,⟨[0,1,5],[.val (.row Y20),.val ti,.val ti],[]⟩,[((.exit 0),⟨[1],[.val ti],[]⟩),(.ret,⟨[4],[.val ti],[]⟩)],aA f104_8⟩:=lE (hc bX hn) o0 (by kernel_rfl) fun _=>by kernel_rfl
theorem con104 : CE 104 ⟨[.val (.row Y20),.val ti],[.val ti],f104⟩:=cE (n:=59) (hc bX hn) Tryz.func104 (o1 o104_8 o0) (by kernel_rfl) fun _=>by kernel_rfl
theorem o105_8 : PE 0 22 (bd Tryz.f105) ⟨8,⟨[0,1,5],[.val (.row .str),.val ti,.val ti],[]⟩,[((.exit 0),⟨[1],[.val ti],[]⟩),(.ret,⟨[4],[.val ti],[]⟩)],aA f105_8⟩:=lE (hc bX hn) o0 (by kernel_rfl) fun _=>by kernel_rfl
theorem con105 : CE 105 ⟨[.val (.row .str),.val ti],[.val ti],f105⟩:=cE (n:=22) (hc bX hn) Tryz.func105 (o1 o105_8 o0) (by kernel_rfl) fun _=>by kernel_rfl
theorem con60 : CE 60 ⟨[.val Y21,.val ti],[.val ti],f60⟩:=cE (n:=18) (hc con104 (hc con105 hn)) Tryz.func60 o0 (by kernel_rfl) fun _=>by kernel_rfl
theorem con22 : CE 22 ⟨[.val Y22,.val ti],[.val ti],f22⟩:=cE (n:=42) (hc con55 (hc con56 (hc con57 (hc con58 (hc con59 (hc con60 hn)))))) Tryz.func22 o0 (by kernel_rfl) fun _=>by kernel_rfl
theorem con4 : CE 4 ⟨ps4,rs4,f4⟩:=cD (n:=97) (hc con5 (hc con7 (hc con10 (hc con11 (hc con14 (hc con15 (hc con16 (hc con17 (hc con18 (hc con19 (hc con20 (hc con21 (hc con22 hn))))))))))))) Tryz.func4 o0 (by kernel_rfl) fun _=>by kernel_rfl
theorem con1004 : CE 4 ⟨[.val Y5,.val Y9,.val ti],[.val .bool],f1004⟩:=cD (n:=97) (hc con5 (hc con7 (hc con10 (hc con11 (hc con14 (hc con15 (hc con16 (hc con18 (hc con19 (hc con20 (hc con21 (hc con22 (hc con1017 hn))))))))))))) Tryz.func4 o0 (by kernel_rfl) fun _=>by kernel_rfl
end Go.Ev.L7
