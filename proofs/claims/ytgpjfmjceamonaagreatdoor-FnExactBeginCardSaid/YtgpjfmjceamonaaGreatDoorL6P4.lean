/-
  Prepare: contracts.
-/
import Derived.Test.YtgpjfmjceamonaaGreatDoorL6P3
namespace Go.Ev.L6
open Go.Proofs
theorem o74_8 : PD 1 48 (bd Tryz.f74) ⟨8,⟨[0,1,5],[.own 118 Y2,.val ti,.val ti],[]⟩,[((.exit 0),⟨[0,1],[.own 118 Y2,.val ti],[]⟩)],aA f74_8⟩:=lD hn o0 (by kernel_rfl) fun _=>by kernel_rfl
theorem con74 : CE 74 ⟨[.own 118 Y2,.val ti],[.val ti],f74⟩:=cD (n:=48) hn Tryz.func74 (o1 o74_8 o0) (by kernel_rfl) fun _=>by kernel_rfl
theorem o75_8 : PD 1 42 (bd Tryz.f75) ⟨8,⟨[0,1,5],[.own 221 Y3,.val ti,.val ti],[]⟩,[((.exit 0),⟨[0,1],[.own 221 Y3,.val ti],[]⟩)],aA f75_8⟩:=lD (hc bX hn) o0 (by kernel_rfl) fun _=>by kernel_rfl
theorem con75 : CE 75 ⟨[.own 221 Y3,.val ti],[.val ti],f75⟩:=cD (n:=42) (hc bX hn) Tryz.func75 (o1 o75_8 o0) (by kernel_rfl) fun _=>by kernel_rfl
theorem o31_8 : PD 1 79 (bd Tryz.f31) ⟨8,⟨[0,1,5],[.deep 71 Z0 true,.val ti,.val ti],[]⟩,[((.exit 0),⟨[0,1],[.deep 71 Z0 true,.val ti],[]⟩)],aA f31_8⟩:=lD (hc iY (hc bX (hc con73 (hc con74 (hc con75 hn))))) o0 (by kernel_rfl) fun _=>by kernel_rfl
theorem con31 : CE 31 ⟨[.deep 71 Z0 true,.val ti],[.val ti],f31⟩:=cD (n:=79) (hc iY (hc bX (hc con73 (hc con74 (hc con75 hn))))) Tryz.func31 (o1 o31_8 o0) (by kernel_rfl) fun _=>by kernel_rfl
theorem con11 : CE 11 ⟨[.lent [.deep 71 Z0],.val ti],[.val ti],f11⟩:=cD (n:=10) (hc con31 hn) Tryz.func11 o0 (by kernel_rfl) fun _=>by kernel_rfl
end Go.Ev.L6
