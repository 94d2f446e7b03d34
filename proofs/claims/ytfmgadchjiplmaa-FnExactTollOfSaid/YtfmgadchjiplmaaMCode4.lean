/- Functions of this seat in the small language, written by a program (GenCode) out of the translation; each is held against the translation by the kernel. -/
import Derived.Test.YtfmgadchjiplmaaMNames
import Derived.KernelRfl
set_option linter.all false
namespace Go.Proofs.Ytfmgadchjiplmaa
open Go.RowKit

def c_impl_SpeedOf : SC :=
 .seq (.reg [
    ⟨none, some 1, .box 2 (.t 0)⟩,
    ⟨none, some 2, .mv (.k (.c (.i 0)))⟩])
 (.seq (.seq (.reg [
     ⟨none, some 6, .ldn 2 (.t 1)⟩,
     ⟨none, some 7, .call n_impl_TrainOk [.t 6]⟩,
     ⟨none, some 8, .not (.t 7)⟩])
  (.cond (.t 8)
   (.seq (.reg [
       ⟨none, some 2, .mv (.k (.c (.i 0)))⟩])
    (.ret))
   (.skip)))
 (.seq (.reg [
    ⟨none, some 9, .fld 1 (.t 1)⟩,
    ⟨none, some 10, .ld1 (.t 9)⟩,
    ⟨none, some 11, .idx 1 (.t 10) (.k (.c (.i 0)))⟩,
    ⟨none, some 12, .ld1 (.t 11)⟩,
    ⟨none, some 13, .idx 6 (.t 12) (.k (.c (.i 0)))⟩,
    ⟨none, some 14, .fld 4 (.t 13)⟩,
    ⟨none, some 15, .ld1 (.t 14)⟩,
    ⟨none, some 3, .mv (.t 15)⟩])
 (.seq (.seq (.reg [
     ⟨none, some 16, .ldn 2 (.t 1)⟩,
     ⟨none, some 17, .call n_impl_boatsOf [.t 16]⟩,
     ⟨none, some 18, .len (.t 17)⟩,
     ⟨none, some 19, .mv (.k (.c (.i 0)))⟩])
  (.block 0 (.loop (.seq (.reg [
       ⟨none, some 20, .bin .lss (.t 19) (.t 18)⟩])
    (.seq (.cond (.t 20)
      (.skip)
      (.exit 0))
    (.seq (.block 1 (.seq (.reg [
         ⟨none, some 21, .idx 6 (.t 17) (.t 19)⟩,
         ⟨none, some 22, .ldn 6 (.t 21)⟩,
         ⟨none, some 5, .alloc [.c (.i 0), .c (.i 0), .c (.i 0), .c (.i 0), .c (.i 0), .c (.i 0)]⟩,
         ⟨none, none, .stn 6 (.t 5) (.t 22)⟩])
      (.reg [
        ⟨none, some 23, .mv (.t 3)⟩,
        ⟨none, some 24, .fld 4 (.t 5)⟩,
        ⟨none, some 25, .ld1 (.t 24)⟩,
        ⟨none, some 26, .mn [.t 23, .t 25]⟩,
        ⟨none, some 3, .mv (.t 26)⟩])))
    (.reg [
      ⟨none, some 27, .bin .add (.t 19) (.k (.c (.i 1)))⟩,
      ⟨none, some 19, .mv (.t 27)⟩])))))))
 (.seq (.reg [
    ⟨none, some 28, .mv (.t 3)⟩,
    ⟨none, some 2, .mv (.t 28)⟩])
 (.ret)))))
theorem h_impl_SpeedOf : Has Try.prog n_impl_SpeedOf 29 c_impl_SpeedOf [.t 2] := ⟨by decide, Try.f136, _, Try.func136, rfl, rfl, by kernel_rfl, by kernel_rfl⟩

def c_impl_boatsOf : SC :=
 .seq (.reg [
    ⟨none, some 1, .box 2 (.t 0)⟩,
    ⟨none, some 2, .mv (.k (.nil 6))⟩])
 (.seq (.reg [
    ⟨none, some 3, .mv (.k (.nil 6))⟩])
 (.seq (.seq (.reg [
     ⟨none, some 6, .fld 1 (.t 1)⟩,
     ⟨none, some 7, .ld1 (.t 6)⟩,
     ⟨none, some 8, .len (.t 7)⟩,
     ⟨none, some 9, .mv (.k (.c (.i 0)))⟩])
  (.block 0 (.loop (.seq (.reg [
       ⟨none, some 10, .bin .lss (.t 9) (.t 8)⟩])
    (.seq (.cond (.t 10)
      (.skip)
      (.exit 0))
    (.seq (.block 1 (.seq (.reg [
         ⟨none, some 11, .idx 1 (.t 7) (.t 9)⟩,
         ⟨none, some 12, .ld1 (.t 11)⟩,
         ⟨none, some 5, .mv (.t 12)⟩])
      (.reg [
        ⟨none, some 13, .mv (.t 3)⟩,
        ⟨none, some 14, .mv (.t 5)⟩,
        ⟨none, some 15, .app 6 48 (.t 13) (.t 14)⟩,
        ⟨none, some 3, .mv (.t 15)⟩])))
    (.reg [
      ⟨none, some 16, .bin .add (.t 9) (.k (.c (.i 1)))⟩,
      ⟨none, some 9, .mv (.t 16)⟩])))))))
 (.seq (.reg [
    ⟨none, some 17, .mv (.t 3)⟩,
    ⟨none, some 2, .mv (.t 17)⟩])
 (.ret))))
theorem h_impl_boatsOf : Has Try.prog n_impl_boatsOf 18 c_impl_boatsOf [.t 2] := ⟨by decide, Try.f205, _, Try.func205, rfl, rfl, by kernel_rfl, by kernel_rfl⟩

def c_laws_FnExactDepthIn : SC :=
 .seq (.reg [
    ⟨none, some 2, .box 2 (.t 0)⟩,
    ⟨none, some 3, .box 3 (.t 1)⟩,
    ⟨none, some 4, .mv (.k (.c (.b false)))⟩])
 (.seq (.reg [
    ⟨none, some 5, .mv (.k (.c (.i 1048576)))⟩])
 (.seq (.reg [
    ⟨none, some 9, .ldn 3 (.t 3)⟩,
    ⟨none, some 10, .mv (.t 5)⟩,
    ⟨none, some 11, .call n_laws_szReach [.t 9, .t 10]⟩,
    ⟨none, some 5, .mv (.t 11)⟩])
 (.seq (.seq (.reg [
     ⟨none, some 12, .mv (.t 5)⟩,
     ⟨none, some 13, .bin .lss (.t 12) (.k (.c (.i 0)))⟩])
  (.cond (.t 13)
   (.seq (.reg [
       ⟨none, some 4, .mv (.k (.c (.b true)))⟩])
    (.ret))
   (.skip)))
 (.seq (.regq [
    ⟨none, some 14, .ldn 2 (.t 2)⟩,
    ⟨none, some 15, .call n_laws_toWay [.t 14]⟩,
    ⟨none, some 16, .ldn 3 (.t 3)⟩,
    ⟨none, some 17, .call n_laws_toReach [.t 16]⟩,
    ⟨none, some 18, .call n_spec_DepthIn [.t 15, .t 17]⟩,
    ⟨none, some 6, .mv (.t 18)⟩])
 (.seq (.reg [
    ⟨none, some 19, .ldn 3 (.t 3)⟩,
    ⟨none, some 20, .call n_laws_toReach [.t 19]⟩,
    ⟨none, some 7, .alloc [.nil 2, .c (.i 0), .nil 1]⟩,
    ⟨none, none, .stn 3 (.t 7) (.t 20)⟩])
 (.seq (.regq [
    ⟨none, some 21, .ldn 2 (.t 2)⟩,
    ⟨none, some 22, .call n_laws_toWay [.t 21]⟩,
    ⟨none, some 23, .ldn 3 (.t 7)⟩,
    ⟨none, some 24, .call n_impl_DepthIn [.t 22, .t 23]⟩,
    ⟨none, some 8, .mv (.t 24)⟩])
 (.seq (.seq (.reg [
     ⟨none, some 25, .mv (.t 8)⟩,
     ⟨none, some 26, .mv (.t 6)⟩,
     ⟨none, some 27, .bin .neq (.t 25) (.t 26)⟩])
  (.cond (.t 27)
   (.seq (.reg [
       ⟨none, some 4, .mv (.k (.c (.b false)))⟩])
    (.ret))
   (.skip)))
 (.seq (.seq (.regq [
     ⟨none, some 28, .ldn 3 (.t 7)⟩,
     ⟨none, some 29, .ldn 3 (.t 3)⟩,
     ⟨none, some 30, .call n_laws_toReach [.t 29]⟩,
     ⟨none, some 31, .call n_laws_eqReach [.t 28, .t 30]⟩,
     ⟨none, some 32, .not (.t 31)⟩])
  (.cond (.t 32)
   (.seq (.reg [
       ⟨none, some 4, .mv (.k (.c (.b false)))⟩])
    (.ret))
   (.skip)))
 (.seq (.reg [
    ⟨none, some 4, .mv (.k (.c (.b true)))⟩])
 (.ret))))))))))
theorem h_laws_FnExactDepthIn : Has Try.prog n_laws_FnExactDepthIn 33 c_laws_FnExactDepthIn [.t 4] := ⟨by decide, Try.f15, _, Try.func15, rfl, rfl, by kernel_rfl, by kernel_rfl⟩

def c_laws_szReach : SC :=
 .seq (.reg [
    ⟨none, some 2, .box 3 (.t 0)⟩,
    ⟨none, some 4, .mv (.k (.c (.i 0)))⟩])
 (.seq (.reg [
    ⟨none, some 5, .fld 0 (.t 2)⟩,
    ⟨none, some 6, .ld1 (.t 5)⟩,
    ⟨none, some 7, .mv (.t 1)⟩,
    ⟨none, some 8, .call n_laws_szPointS [.t 6, .t 7]⟩,
    ⟨none, some 1, .mv (.t 8)⟩])
 (.seq (.seq (.reg [
     ⟨none, some 9, .mv (.t 1)⟩,
     ⟨none, some 10, .bin .lss (.t 9) (.k (.c (.i 0)))⟩])
  (.cond (.t 10)
   (.seq (.reg [
       ⟨none, some 4, .mv (.k (.c (.i (-1))))⟩])
    (.ret))
   (.skip)))
 (.seq (.reg [
    ⟨none, some 11, .fld 2 (.t 2)⟩,
    ⟨none, some 12, .ld1 (.t 11)⟩,
    ⟨none, some 13, .mv (.t 1)⟩,
    ⟨none, some 14, .call n_laws_szIntS [.t 12, .t 13]⟩,
    ⟨none, some 1, .mv (.t 14)⟩])
 (.seq (.seq (.reg [
     ⟨none, some 15, .mv (.t 1)⟩,
     ⟨none, some 16, .bin .lss (.t 15) (.k (.c (.i 0)))⟩])
  (.cond (.t 16)
   (.seq (.reg [
       ⟨none, some 4, .mv (.k (.c (.i (-1))))⟩])
    (.ret))
   (.skip)))
 (.seq (.reg [
    ⟨none, some 17, .mv (.t 1)⟩,
    ⟨none, some 4, .mv (.t 17)⟩])
 (.ret))))))
theorem h_laws_szReach : Has Try.prog n_laws_szReach 18 c_laws_szReach [.t 4] := ⟨by decide, Try.f73, _, Try.func73, rfl, rfl, by kernel_rfl, by kernel_rfl⟩

def c_spec_DepthIn : SC :=
 .seq (.reg [
    ⟨none, some 2, .box 2 (.t 0)⟩,
    ⟨none, some 3, .box 3 (.t 1)⟩,
    ⟨none, some 4, .mv (.k (.c (.i 0)))⟩])
 (.seq (.seq (.reg [
     ⟨none, some 5, .ldn 2 (.t 2)⟩,
     ⟨none, some 6, .call n_spec_WayOk [.t 5]⟩,
     ⟨none, some 7, .not (.t 6)⟩,
     ⟨none, some 8, .mv (.t 7)⟩,
     ⟨some (8, false), some 9, .ldn 3 (.t 3)⟩,
     ⟨some (8, false), some 10, .call n_spec_ReachOk [.t 9]⟩,
     ⟨some (8, false), some 11, .not (.t 10)⟩,
     ⟨none, some 12, .pick (.t 8) (.k (.c (.b true))) (.t 11)⟩])
  (.cond (.t 12)
   (.seq (.reg [
       ⟨none, some 4, .mv (.k (.c (.i 0)))⟩])
    (.ret))
   (.skip)))
 (.seq (.regq [
    ⟨none, some 13, .ldn 3 (.t 3)⟩,
    ⟨none, some 14, .call n_spec_LevelOf [.t 13]⟩,
    ⟨none, some 15, .fld 1 (.t 2)⟩,
    ⟨none, some 16, .ld1 (.t 15)⟩,
    ⟨none, some 17, .bin .sub (.t 14) (.t 16)⟩,
    ⟨none, some 18, .mx [.k (.c (.i 0)), .t 17]⟩,
    ⟨none, some 4, .mv (.t 18)⟩])
 (.ret)))
theorem h_spec_DepthIn : Has Try.prog n_spec_DepthIn 19 c_spec_DepthIn [.t 4] := ⟨by decide, Try.f74, _, Try.func74, rfl, rfl, by kernel_rfl, by kernel_rfl⟩

def c_laws_toReach : SC :=
 .seq (.reg [
    ⟨none, some 1, .box 3 (.t 0)⟩,
    ⟨none, some 2, .alloc [.nil 2, .c (.i 0), .nil 1]⟩])
 (.seq (.reg [
    ⟨none, some 3, .alloc [.nil 2, .c (.i 0), .nil 1]⟩])
 (.seq (.reg [
    ⟨none, some 4, .fld 0 (.t 1)⟩,
    ⟨none, some 5, .ld1 (.t 4)⟩,
    ⟨none, some 6, .call n_laws_toPointS [.t 5]⟩,
    ⟨none, some 7, .fld 0 (.t 3)⟩,
    ⟨none, none, .st1 (.t 7) (.t 6)⟩])
 (.seq (.reg [
    ⟨none, some 8, .fld 1 (.t 1)⟩,
    ⟨none, some 9, .ld1 (.t 8)⟩,
    ⟨none, some 10, .fld 1 (.t 3)⟩,
    ⟨none, none, .st1 (.t 10) (.t 9)⟩])
 (.seq (.reg [
    ⟨none, some 11, .fld 2 (.t 1)⟩,
    ⟨none, some 12, .ld1 (.t 11)⟩,
    ⟨none, some 13, .call n_laws_toIntS [.t 12]⟩,
    ⟨none, some 14, .fld 2 (.t 3)⟩,
    ⟨none, none, .st1 (.t 14) (.t 13)⟩])
 (.seq (.reg [
    ⟨none, some 15, .ldn 3 (.t 3)⟩,
    ⟨none, none, .stn 3 (.t 2) (.t 15)⟩])
 (.ret))))))
theorem h_laws_toReach : Has Try.prog n_laws_toReach 16 c_laws_toReach [.cl 2 3] := ⟨by decide, Try.f75, _, Try.func75, rfl, rfl, by kernel_rfl, by kernel_rfl⟩

def c_impl_DepthIn : SC :=
 .seq (.reg [
    ⟨none, some 2, .box 2 (.t 0)⟩,
    ⟨none, some 3, .box 3 (.t 1)⟩,
    ⟨none, some 4, .mv (.k (.c (.i 0)))⟩])
 (.seq (.seq (.reg [
     ⟨none, some 5, .ldn 2 (.t 2)⟩,
     ⟨none, some 6, .call n_impl_WayOk [.t 5]⟩,
     ⟨none, some 7, .not (.t 6)⟩,
     ⟨none, some 8, .mv (.t 7)⟩,
     ⟨some (8, false), some 9, .ldn 3 (.t 3)⟩,
     ⟨some (8, false), some 10, .call n_impl_ReachOk [.t 9]⟩,
     ⟨some (8, false), some 11, .not (.t 10)⟩,
     ⟨none, some 12, .pick (.t 8) (.k (.c (.b true))) (.t 11)⟩])
  (.cond (.t 12)
   (.seq (.reg [
       ⟨none, some 4, .mv (.k (.c (.i 0)))⟩])
    (.ret))
   (.skip)))
 (.seq (.regq [
    ⟨none, some 13, .ldn 3 (.t 3)⟩,
    ⟨none, some 14, .call n_impl_LevelOf [.t 13]⟩,
    ⟨none, some 15, .fld 1 (.t 2)⟩,
    ⟨none, some 16, .ld1 (.t 15)⟩,
    ⟨none, some 17, .bin .sub (.t 14) (.t 16)⟩,
    ⟨none, some 18, .mx [.k (.c (.i 0)), .t 17]⟩,
    ⟨none, some 4, .mv (.t 18)⟩])
 (.ret)))
theorem h_impl_DepthIn : Has Try.prog n_impl_DepthIn 19 c_impl_DepthIn [.t 4] := ⟨by decide, Try.f76, _, Try.func76, rfl, rfl, by kernel_rfl, by kernel_rfl⟩

def c_laws_eqReach : SC :=
 .seq (.reg [
    ⟨none, some 2, .box 3 (.t 0)⟩,
    ⟨none, some 3, .box 3 (.t 1)⟩,
    ⟨none, some 4, .mv (.k (.c (.b false)))⟩])
 (.seq (.seq (.reg [
     ⟨none, some 5, .fld 0 (.t 2)⟩,
     ⟨none, some 6, .ld1 (.t 5)⟩,
     ⟨none, some 7, .fld 0 (.t 3)⟩,
     ⟨none, some 8, .ld1 (.t 7)⟩,
     ⟨none, some 9, .call n_laws_eqPointS [.t 6, .t 8]⟩,
     ⟨none, some 10, .not (.t 9)⟩])
  (.cond (.t 10)
   (.seq (.reg [
       ⟨none, some 4, .mv (.k (.c (.b false)))⟩])
    (.ret))
   (.skip)))
 (.seq (.seq (.reg [
     ⟨none, some 11, .fld 1 (.t 2)⟩,
     ⟨none, some 12, .ld1 (.t 11)⟩,
     ⟨none, some 13, .fld 1 (.t 3)⟩,
     ⟨none, some 14, .ld1 (.t 13)⟩,
     ⟨none, some 15, .bin .neq (.t 12) (.t 14)⟩])
  (.cond (.t 15)
   (.seq (.reg [
       ⟨none, some 4, .mv (.k (.c (.b false)))⟩])
    (.ret))
   (.skip)))
 (.seq (.seq (.reg [
     ⟨none, some 16, .fld 2 (.t 2)⟩,
     ⟨none, some 17, .ld1 (.t 16)⟩,
     ⟨none, some 18, .fld 2 (.t 3)⟩,
     ⟨none, some 19, .ld1 (.t 18)⟩,
     ⟨none, some 20, .call n_laws_eqIntS [.t 17, .t 19]⟩,
     ⟨none, some 21, .not (.t 20)⟩])
  (.cond (.t 21)
   (.seq (.reg [
       ⟨none, some 4, .mv (.k (.c (.b false)))⟩])
    (.ret))
   (.skip)))
 (.seq (.reg [
    ⟨none, some 4, .mv (.k (.c (.b true)))⟩])
 (.ret)))))
theorem h_laws_eqReach : Has Try.prog n_laws_eqReach 22 c_laws_eqReach [.t 4] := ⟨by decide, Try.f77, _, Try.func77, rfl, rfl, by kernel_rfl, by kernel_rfl⟩

def c_laws_szPointS : SC :=
 .seq (.reg [
    ⟨none, some 4, .mv (.k (.c (.i 0)))⟩])
 (.seq (.reg [
    ⟨none, some 5, .mv (.t 1)⟩,
    ⟨none, some 6, .mv (.t 0)⟩,
    ⟨none, some 7, .len (.t 6)⟩,
    ⟨none, some 8, .bin .sub (.t 5) (.t 7)⟩,
    ⟨none, some 1, .mv (.t 8)⟩])
 (.seq (.seq (.reg [
     ⟨none, some 9, .mv (.t 1)⟩,
     ⟨none, some 10, .bin .lss (.t 9) (.k (.c (.i 0)))⟩])
  (.cond (.t 10)
   (.seq (.reg [
       ⟨none, some 4, .mv (.k (.c (.i (-1))))⟩])
    (.ret))
   (.skip)))
 (.seq (.reg [
    ⟨none, some 11, .mv (.t 1)⟩,
    ⟨none, some 4, .mv (.t 11)⟩])
 (.ret))))
theorem h_laws_szPointS : Has Try.prog n_laws_szPointS 12 c_laws_szPointS [.t 4] := ⟨by decide, Try.f138, _, Try.func138, rfl, rfl, by kernel_rfl, by kernel_rfl⟩

def c_spec_ReachOk : SC :=
 .seq (.reg [
    ⟨none, some 1, .box 3 (.t 0)⟩,
    ⟨none, some 2, .mv (.k (.c (.b false)))⟩])
 (.seq (.seq (.reg [
     ⟨none, some 4, .fld 0 (.t 1)⟩,
     ⟨none, some 5, .ld1 (.t 4)⟩,
     ⟨none, some 6, .call n_spec_TableOk [.t 5]⟩,
     ⟨none, some 7, .not (.t 6)⟩,
     ⟨none, some 8, .mv (.t 7)⟩,
     ⟨some (8, false), some 9, .fld 1 (.t 1)⟩,
     ⟨some (8, false), some 10, .ld1 (.t 9)⟩,
     ⟨some (8, false), some 11, .call n_spec_l01In [.t 10, .k (.c (.i 0)), .k (.c (.i 1000000000))]⟩,
     ⟨some (8, false), some 12, .not (.t 11)⟩,
     ⟨none, some 13, .pick (.t 8) (.k (.c (.b true))) (.t 12)⟩,
     ⟨none, some 14, .mv (.t 13)⟩,
     ⟨some (14, false), some 15, .fld 2 (.t 1)⟩,
     ⟨some (14, false), some 16, .ld1 (.t 15)⟩,
     ⟨some (14, false), some 17, .len (.t 16)⟩,
     ⟨some (14, false), some 18, .bin .gtr (.t 17) (.k (.c (.i 12)))⟩,
     ⟨none, some 19, .pick (.t 14) (.k (.c (.b true))) (.t 18)⟩])
  (.cond (.t 19)
   (.seq (.reg [
       ⟨none, some 2, .mv (.k (.c (.b false)))⟩])
    (.ret))
   (.skip)))
 (.seq (.seq (.reg [
     ⟨none, some 3, .mv (.k (.c (.i 0)))⟩])
  (.block 0 (.loop (.seq (.seq (.reg [
        ⟨none, some 20, .mv (.t 3)⟩,
        ⟨none, some 21, .fld 2 (.t 1)⟩,
        ⟨none, some 22, .ld1 (.t 21)⟩,
        ⟨none, some 23, .len (.t 22)⟩,
        ⟨none, some 24, .bin .lss (.t 20) (.t 23)⟩])
     (.cond (.t 24)
      (.skip)
      (.exit 0)))
    (.seq (.block 1 (.seq (.reg [
         ⟨none, some 27, .fld 2 (.t 1)⟩,
         ⟨none, some 28, .ld1 (.t 27)⟩,
         ⟨none, some 29, .mv (.t 3)⟩,
         ⟨none, some 30, .idx 1 (.t 28) (.t 29)⟩,
         ⟨none, some 31, .ld1 (.t 30)⟩,
         ⟨none, some 32, .call n_spec_l01In [.t 31, .k (.c (.i 0)), .k (.c (.i 1000000000))]⟩,
         ⟨none, some 33, .not (.t 32)⟩])
      (.cond (.t 33)
       (.seq (.reg [
           ⟨none, some 2, .mv (.k (.c (.b false)))⟩])
        (.ret))
       (.skip))))
    (.reg [
      ⟨none, some 25, .mv (.t 3)⟩,
      ⟨none, some 26, .bin .add (.t 25) (.k (.c (.i 1)))⟩,
      ⟨none, some 3, .mv (.t 26)⟩]))))))
 (.seq (.reg [
    ⟨none, some 34, .ldn 3 (.t 1)⟩,
    ⟨none, some 35, .call n_spec_l02Sum [.t 34]⟩,
    ⟨none, some 36, .bin .leq (.t 35) (.k (.c (.i 1000000000)))⟩,
    ⟨none, some 2, .mv (.t 36)⟩])
 (.ret))))
theorem h_spec_ReachOk : Has Try.prog n_spec_ReachOk 37 c_spec_ReachOk [.t 2] := ⟨by decide, Try.f139, _, Try.func139, rfl, rfl, by kernel_rfl, by kernel_rfl⟩

def c_spec_LevelOf : SC :=
 .seq (.reg [
    ⟨none, some 1, .box 3 (.t 0)⟩,
    ⟨none, some 2, .mv (.k (.c (.i 0)))⟩])
 (.seq (.seq (.reg [
     ⟨none, some 5, .ldn 3 (.t 1)⟩,
     ⟨none, some 6, .call n_spec_ReachOk [.t 5]⟩,
     ⟨none, some 7, .not (.t 6)⟩])
  (.cond (.t 7)
   (.seq (.reg [
       ⟨none, some 2, .mv (.k (.c (.i 0)))⟩])
    (.ret))
   (.skip)))
 (.seq (.reg [
    ⟨none, some 9, .fld 0 (.t 1)⟩,
    ⟨none, some 10, .ld1 (.t 9)⟩,
    ⟨none, some 11, .fld 1 (.t 1)⟩,
    ⟨none, some 12, .ld1 (.t 11)⟩,
    ⟨none, some 13, .call n_spec_PlaceOf [.t 10, .t 12]⟩,
    ⟨none, some 8, .mv (.t 13)⟩,
    ⟨none, some 14, .ext 0 (.t 8)⟩,
    ⟨none, some 15, .ext 1 (.t 8)⟩,
    ⟨none, some 3, .mv (.t 14)⟩,
    ⟨none, some 4, .mv (.t 15)⟩])
 (.seq (.seq (.reg [
     ⟨none, some 16, .mv (.t 4)⟩,
     ⟨none, some 17, .not (.t 16)⟩])
  (.cond (.t 17)
   (.seq (.reg [
       ⟨none, some 18, .fld 0 (.t 1)⟩,
       ⟨none, some 19, .ld1 (.t 18)⟩,
       ⟨none, some 20, .fld 0 (.t 1)⟩,
       ⟨none, some 21, .ld1 (.t 20)⟩,
       ⟨none, some 22, .len (.t 21)⟩,
       ⟨none, some 23, .bin .sub (.t 22) (.k (.c (.i 1)))⟩,
       ⟨none, some 24, .idx 2 (.t 19) (.t 23)⟩,
       ⟨none, some 25, .fld 0 (.t 24)⟩,
       ⟨none, some 26, .ld1 (.t 25)⟩,
       ⟨none, some 2, .mv (.t 26)⟩])
    (.ret))
   (.skip)))
 (.seq (.reg [
    ⟨none, some 27, .mv (.t 3)⟩,
    ⟨none, some 2, .mv (.t 27)⟩])
 (.ret)))))
theorem h_spec_LevelOf : Has Try.prog n_spec_LevelOf 28 c_spec_LevelOf [.t 2] := ⟨by decide, Try.f140, _, Try.func140, rfl, rfl, by kernel_rfl, by kernel_rfl⟩

def c_laws_toPointS : SC :=
 .seq (.reg [
    ⟨none, some 2, .mv (.k (.nil 2))⟩])
 (.seq (.reg [
    ⟨none, some 5, .mv (.t 0)⟩,
    ⟨none, some 6, .len (.t 5)⟩,
    ⟨none, some 7, .mks 2 16 [.i 0, .i 0] (.t 6) (.t 6)⟩,
    ⟨none, some 3, .mv (.t 7)⟩])
 (.seq (.seq (.reg [
     ⟨none, some 4, .mv (.k (.c (.i 0)))⟩])
  (.block 0 (.loop (.seq (.seq (.reg [
        ⟨none, some 8, .mv (.t 4)⟩,
        ⟨none, some 9, .mv (.t 0)⟩,
        ⟨none, some 10, .len (.t 9)⟩,
        ⟨none, some 11, .bin .lss (.t 8) (.t 10)⟩])
     (.cond (.t 11)
      (.skip)
      (.exit 0)))
    (.seq (.block 1 (.reg [
        ⟨none, some 14, .mv (.t 3)⟩,
        ⟨none, some 15, .mv (.t 4)⟩,
        ⟨none, some 16, .mv (.t 0)⟩,
        ⟨none, some 17, .mv (.t 4)⟩,
        ⟨none, some 18, .idx 2 (.t 16) (.t 17)⟩,
        ⟨none, some 19, .ldn 2 (.t 18)⟩,
        ⟨none, some 20, .call n_laws_toPoint [.t 19]⟩,
        ⟨none, some 21, .idx 2 (.t 14) (.t 15)⟩,
        ⟨none, none, .stn 2 (.t 21) (.t 20)⟩]))
    (.reg [
      ⟨none, some 12, .mv (.t 4)⟩,
      ⟨none, some 13, .bin .add (.t 12) (.k (.c (.i 1)))⟩,
      ⟨none, some 4, .mv (.t 13)⟩]))))))
 (.seq (.reg [
    ⟨none, some 22, .mv (.t 3)⟩,
    ⟨none, some 2, .mv (.t 22)⟩])
 (.ret))))
theorem h_laws_toPointS : Has Try.prog n_laws_toPointS 23 c_laws_toPointS [.t 2] := ⟨by decide, Try.f141, _, Try.func141, rfl, rfl, by kernel_rfl, by kernel_rfl⟩

def c_impl_ReachOk : SC :=
 .seq (.reg [
    ⟨none, some 1, .box 3 (.t 0)⟩,
    ⟨none, some 2, .mv (.k (.c (.b false)))⟩])
 (.seq (.seq (.reg [
     ⟨none, some 6, .fld 0 (.t 1)⟩,
     ⟨none, some 7, .ld1 (.t 6)⟩,
     ⟨none, some 8, .call n_impl_TableOk [.t 7]⟩,
     ⟨none, some 9, .not (.t 8)⟩,
     ⟨none, some 10, .mv (.t 9)⟩,
     ⟨some (10, false), some 11, .fld 1 (.t 1)⟩,
     ⟨some (10, false), some 12, .ld1 (.t 11)⟩,
     ⟨some (10, false), some 13, .call n_impl_inRange [.t 12, .k (.c (.i 0)), .k (.c (.i 1000000000))]⟩,
     ⟨some (10, false), some 14, .not (.t 13)⟩,
     ⟨none, some 15, .pick (.t 10) (.k (.c (.b true))) (.t 14)⟩,
     ⟨none, some 16, .mv (.t 15)⟩,
     ⟨some (16, false), some 17, .fld 2 (.t 1)⟩,
     ⟨some (16, false), some 18, .ld1 (.t 17)⟩,
     ⟨some (16, false), some 19, .len (.t 18)⟩,
     ⟨some (16, false), some 20, .bin .gtr (.t 19) (.k (.c (.i 12)))⟩,
     ⟨none, some 21, .pick (.t 16) (.k (.c (.b true))) (.t 20)⟩])
  (.cond (.t 21)
   (.seq (.reg [
       ⟨none, some 2, .mv (.k (.c (.b false)))⟩])
    (.ret))
   (.skip)))
 (.seq (.reg [
    ⟨none, some 22, .fld 1 (.t 1)⟩,
    ⟨none, some 23, .ld1 (.t 22)⟩,
    ⟨none, some 24, .bin .sub (.k (.c (.i 1000000000))) (.t 23)⟩,
    ⟨none, some 3, .mv (.t 24)⟩])
 (.seq (.seq (.reg [
     ⟨none, some 25, .fld 2 (.t 1)⟩,
     ⟨none, some 26, .ld1 (.t 25)⟩,
     ⟨none, some 27, .len (.t 26)⟩,
     ⟨none, some 28, .mv (.k (.c (.i 0)))⟩])
  (.block 0 (.loop (.seq (.reg [
       ⟨none, some 29, .bin .lss (.t 28) (.t 27)⟩])
    (.seq (.cond (.t 29)
      (.skip)
      (.exit 0))
    (.seq (.block 1 (.seq (.reg [
         ⟨none, some 30, .idx 1 (.t 26) (.t 28)⟩,
         ⟨none, some 31, .ld1 (.t 30)⟩,
         ⟨none, some 5, .mv (.t 31)⟩])
      (.seq (.seq (.reg [
          ⟨none, some 32, .mv (.t 5)⟩,
          ⟨none, some 33, .bin .lss (.t 32) (.k (.c (.i 0)))⟩,
          ⟨none, some 34, .mv (.t 33)⟩,
          ⟨some (34, false), some 35, .mv (.t 5)⟩,
          ⟨some (34, false), some 36, .mv (.t 3)⟩,
          ⟨some (34, false), some 37, .bin .gtr (.t 35) (.t 36)⟩,
          ⟨none, some 38, .pick (.t 34) (.k (.c (.b true))) (.t 37)⟩])
       (.cond (.t 38)
        (.seq (.reg [
            ⟨none, some 2, .mv (.k (.c (.b false)))⟩])
         (.ret))
        (.skip)))
      (.reg [
        ⟨none, some 39, .mv (.t 3)⟩,
        ⟨none, some 40, .mv (.t 5)⟩,
        ⟨none, some 41, .bin .sub (.t 39) (.t 40)⟩,
        ⟨none, some 3, .mv (.t 41)⟩]))))
    (.reg [
      ⟨none, some 42, .bin .add (.t 28) (.k (.c (.i 1)))⟩,
      ⟨none, some 28, .mv (.t 42)⟩])))))))
 (.seq (.reg [
    ⟨none, some 2, .mv (.k (.c (.b true)))⟩])
 (.ret)))))
theorem h_impl_ReachOk : Has Try.prog n_impl_ReachOk 43 c_impl_ReachOk [.t 2] := ⟨by decide, Try.f142, _, Try.func142, rfl, rfl, by kernel_rfl, by kernel_rfl⟩

def c_impl_LevelOf : SC :=
 .seq (.reg [
    ⟨none, some 1, .box 3 (.t 0)⟩,
    ⟨none, some 2, .mv (.k (.c (.i 0)))⟩])
 (.seq (.seq (.reg [
     ⟨none, some 5, .ldn 3 (.t 1)⟩,
     ⟨none, some 6, .call n_impl_ReachOk [.t 5]⟩,
     ⟨none, some 7, .not (.t 6)⟩])
  (.cond (.t 7)
   (.seq (.reg [
       ⟨none, some 2, .mv (.k (.c (.i 0)))⟩])
    (.ret))
   (.skip)))
 (.seq (.reg [
    ⟨none, some 9, .fld 0 (.t 1)⟩,
    ⟨none, some 10, .ld1 (.t 9)⟩,
    ⟨none, some 11, .fld 1 (.t 1)⟩,
    ⟨none, some 12, .ld1 (.t 11)⟩,
    ⟨none, some 13, .call n_impl_PlaceOf [.t 10, .t 12]⟩,
    ⟨none, some 8, .mv (.t 13)⟩,
    ⟨none, some 14, .ext 0 (.t 8)⟩,
    ⟨none, some 15, .ext 1 (.t 8)⟩,
    ⟨none, some 3, .mv (.t 14)⟩,
    ⟨none, some 4, .mv (.t 15)⟩])
 (.seq (.seq (.reg [
     ⟨none, some 16, .mv (.t 4)⟩,
     ⟨none, some 17, .not (.t 16)⟩])
  (.cond (.t 17)
   (.seq (.reg [
       ⟨none, some 18, .fld 0 (.t 1)⟩,
       ⟨none, some 19, .ld1 (.t 18)⟩,
       ⟨none, some 20, .fld 0 (.t 1)⟩,
       ⟨none, some 21, .ld1 (.t 20)⟩,
       ⟨none, some 22, .len (.t 21)⟩,
       ⟨none, some 23, .bin .sub (.t 22) (.k (.c (.i 1)))⟩,
       ⟨none, some 24, .idx 2 (.t 19) (.t 23)⟩,
       ⟨none, some 25, .fld 0 (.t 24)⟩,
       ⟨none, some 26, .ld1 (.t 25)⟩,
       ⟨none, some 2, .mv (.t 26)⟩])
    (.ret))
   (.skip)))
 (.seq (.reg [
    ⟨none, some 27, .mv (.t 3)⟩,
    ⟨none, some 2, .mv (.t 27)⟩])
 (.ret)))))
theorem h_impl_LevelOf : Has Try.prog n_impl_LevelOf 28 c_impl_LevelOf [.t 2] := ⟨by decide, Try.f143, _, Try.func143, rfl, rfl, by kernel_rfl, by kernel_rfl⟩

def c_laws_eqPointS : SC :=
 .seq (.reg [
    ⟨none, some 4, .mv (.k (.c (.b false)))⟩])
 (.seq (.seq (.reg [
     ⟨none, some 6, .mv (.t 0)⟩,
     ⟨none, some 7, .len (.t 6)⟩,
     ⟨none, some 8, .mv (.t 1)⟩,
     ⟨none, some 9, .len (.t 8)⟩,
     ⟨none, some 10, .bin .neq (.t 7) (.t 9)⟩])
  (.cond (.t 10)
   (.seq (.reg [
       ⟨none, some 4, .mv (.k (.c (.b false)))⟩])
    (.ret))
   (.skip)))
 (.seq (.seq (.reg [
     ⟨none, some 5, .mv (.k (.c (.i 0)))⟩])
  (.block 0 (.loop (.seq (.seq (.reg [
        ⟨none, some 11, .mv (.t 5)⟩,
        ⟨none, some 12, .mv (.t 0)⟩,
        ⟨none, some 13, .len (.t 12)⟩,
        ⟨none, some 14, .bin .lss (.t 11) (.t 13)⟩])
     (.cond (.t 14)
      (.skip)
      (.exit 0)))
    (.seq (.block 1 (.seq (.regq [
         ⟨none, some 17, .mv (.t 0)⟩,
         ⟨none, some 18, .mv (.t 5)⟩,
         ⟨none, some 19, .idx 2 (.t 17) (.t 18)⟩,
         ⟨none, some 20, .ldn 2 (.t 19)⟩,
         ⟨none, some 21, .mv (.t 1)⟩,
         ⟨none, some 22, .mv (.t 5)⟩,
         ⟨none, some 23, .idx 2 (.t 21) (.t 22)⟩,
         ⟨none, some 24, .ldn 2 (.t 23)⟩,
         ⟨none, some 25, .call n_laws_eqPoint [.t 20, .t 24]⟩,
         ⟨none, some 26, .not (.t 25)⟩])
      (.cond (.t 26)
       (.seq (.reg [
           ⟨none, some 4, .mv (.k (.c (.b false)))⟩])
        (.ret))
       (.skip))))
    (.reg [
      ⟨none, some 15, .mv (.t 5)⟩,
      ⟨none, some 16, .bin .add (.t 15) (.k (.c (.i 1)))⟩,
      ⟨none, some 5, .mv (.t 16)⟩]))))))
 (.seq (.reg [
    ⟨none, some 4, .mv (.k (.c (.b true)))⟩])
 (.ret))))
theorem h_laws_eqPointS : Has Try.prog n_laws_eqPointS 27 c_laws_eqPointS [.t 4] := ⟨by decide, Try.f144, _, Try.func144, rfl, rfl, by kernel_rfl, by kernel_rfl⟩

def c_spec_ValueAt : SC :=
 .seq (.reg [
    ⟨none, some 4, .mv (.k (.c (.i 0)))⟩])
 (.seq (.seq (.reg [
     ⟨none, some 9, .mv (.t 0)⟩,
     ⟨none, some 10, .call n_spec_TableOk [.t 9]⟩,
     ⟨none, some 11, .not (.t 10)⟩])
  (.cond (.t 11)
   (.seq (.reg [
       ⟨none, some 4, .mv (.k (.c (.i 0)))⟩])
    (.ret))
   (.skip)))
 (.seq (.reg [
    ⟨none, some 12, .mv (.t 0)⟩,
    ⟨none, some 13, .len (.t 12)⟩,
    ⟨none, some 5, .mv (.t 13)⟩])
 (.seq (.seq (.reg [
     ⟨none, some 14, .mv (.t 1)⟩,
     ⟨none, some 15, .mv (.t 0)⟩,
     ⟨none, some 16, .idx 2 (.t 15) (.k (.c (.i 0)))⟩,
     ⟨none, some 17, .fld 0 (.t 16)⟩,
     ⟨none, some 18, .ld1 (.t 17)⟩,
     ⟨none, some 19, .bin .leq (.t 14) (.t 18)⟩])
  (.cond (.t 19)
   (.seq (.reg [
       ⟨none, some 20, .mv (.t 0)⟩,
       ⟨none, some 21, .idx 2 (.t 20) (.k (.c (.i 0)))⟩,
       ⟨none, some 22, .fld 1 (.t 21)⟩,
       ⟨none, some 23, .ld1 (.t 22)⟩,
       ⟨none, some 4, .mv (.t 23)⟩])
    (.ret))
   (.skip)))
 (.seq (.seq (.reg [
     ⟨none, some 24, .mv (.t 1)⟩,
     ⟨none, some 25, .mv (.t 0)⟩,
     ⟨none, some 26, .mv (.t 5)⟩,
     ⟨none, some 27, .bin .sub (.t 26) (.k (.c (.i 1)))⟩,
     ⟨none, some 28, .idx 2 (.t 25) (.t 27)⟩,
     ⟨none, some 29, .fld 0 (.t 28)⟩,
     ⟨none, some 30, .ld1 (.t 29)⟩,
     ⟨none, some 31, .bin .geq (.t 24) (.t 30)⟩])
  (.cond (.t 31)
   (.seq (.reg [
       ⟨none, some 32, .mv (.t 0)⟩,
       ⟨none, some 33, .mv (.t 5)⟩,
       ⟨none, some 34, .bin .sub (.t 33) (.k (.c (.i 1)))⟩,
       ⟨none, some 35, .idx 2 (.t 32) (.t 34)⟩,
       ⟨none, some 36, .fld 1 (.t 35)⟩,
       ⟨none, some 37, .ld1 (.t 36)⟩,
       ⟨none, some 4, .mv (.t 37)⟩])
    (.ret))
   (.skip)))
 (.seq (.reg [
    ⟨none, some 6, .mv (.k (.c (.i 0)))⟩])
 (.seq (.block 0 (.loop (.seq (.seq (.reg [
        ⟨none, some 38, .mv (.t 0)⟩,
        ⟨none, some 39, .mv (.t 6)⟩,
        ⟨none, some 40, .bin .add (.t 39) (.k (.c (.i 1)))⟩,
        ⟨none, some 41, .idx 2 (.t 38) (.t 40)⟩,
        ⟨none, some 42, .fld 0 (.t 41)⟩,
        ⟨none, some 43, .ld1 (.t 42)⟩,
        ⟨none, some 44, .mv (.t 1)⟩,
        ⟨none, some 45, .bin .leq (.t 43) (.t 44)⟩])
     (.cond (.t 45)
      (.skip)
      (.exit 0)))
    (.block 1 (.reg [
       ⟨none, some 46, .mv (.t 6)⟩,
       ⟨none, some 47, .bin .add (.t 46) (.k (.c (.i 1)))⟩,
       ⟨none, some 6, .mv (.t 47)⟩])))))
 (.seq (.reg [
    ⟨none, some 48, .mv (.t 0)⟩,
    ⟨none, some 49, .mv (.t 6)⟩,
    ⟨none, some 50, .idx 2 (.t 48) (.t 49)⟩,
    ⟨none, some 51, .ldn 2 (.t 50)⟩,
    ⟨none, some 7, .alloc [.c (.i 0), .c (.i 0)]⟩,
    ⟨none, none, .stn 2 (.t 7) (.t 51)⟩])
 (.seq (.reg [
    ⟨none, some 52, .mv (.t 0)⟩,
    ⟨none, some 53, .mv (.t 6)⟩,
    ⟨none, some 54, .bin .add (.t 53) (.k (.c (.i 1)))⟩,
    ⟨none, some 55, .idx 2 (.t 52) (.t 54)⟩,
    ⟨none, some 56, .ldn 2 (.t 55)⟩,
    ⟨none, some 8, .alloc [.c (.i 0), .c (.i 0)]⟩,
    ⟨none, none, .stn 2 (.t 8) (.t 56)⟩])
 (.seq (.regq [
    ⟨none, some 57, .fld 1 (.t 7)⟩,
    ⟨none, some 58, .ld1 (.t 57)⟩,
    ⟨none, some 59, .mv (.t 1)⟩,
    ⟨none, some 60, .fld 0 (.t 7)⟩,
    ⟨none, some 61, .ld1 (.t 60)⟩,
    ⟨none, some 62, .bin .sub (.t 59) (.t 61)⟩,
    ⟨none, some 63, .fld 1 (.t 8)⟩,
    ⟨none, some 64, .ld1 (.t 63)⟩,
    ⟨none, some 65, .fld 1 (.t 7)⟩,
    ⟨none, some 66, .ld1 (.t 65)⟩,
    ⟨none, some 67, .bin .sub (.t 64) (.t 66)⟩,
    ⟨none, some 68, .bin .mul (.t 62) (.t 67)⟩,
    ⟨none, some 69, .fld 0 (.t 8)⟩,
    ⟨none, some 70, .ld1 (.t 69)⟩,
    ⟨none, some 71, .fld 0 (.t 7)⟩,
    ⟨none, some 72, .ld1 (.t 71)⟩,
    ⟨none, some 73, .bin .sub (.t 70) (.t 72)⟩,
    ⟨none, some 74, .bin .quo (.t 68) (.t 73)⟩,
    ⟨none, some 75, .bin .add (.t 58) (.t 74)⟩,
    ⟨none, some 4, .mv (.t 75)⟩])
 (.ret))))))))))
theorem h_spec_ValueAt : Has Try.prog n_spec_ValueAt 76 c_spec_ValueAt [.t 4] := ⟨by decide, Try.f153, _, Try.func153, rfl, rfl, by kernel_rfl, by kernel_rfl⟩

def c_spec_TableOk : SC :=
 .seq (.reg [
    ⟨none, some 2, .mv (.k (.c (.b false)))⟩])
 (.seq (.seq (.reg [
     ⟨none, some 3, .mv (.k (.c (.i 0)))⟩])
  (.block 0 (.loop (.seq (.seq (.reg [
        ⟨none, some 4, .mv (.t 3)⟩,
        ⟨none, some 5, .mv (.t 0)⟩,
        ⟨none, some 6, .len (.t 5)⟩,
        ⟨none, some 7, .bin .lss (.t 4) (.t 6)⟩])
     (.cond (.t 7)
      (.skip)
      (.exit 0)))
    (.seq (.block 1 (.seq (.regq [
         ⟨none, some 10, .mv (.t 0)⟩,
         ⟨none, some 11, .mv (.t 3)⟩,
         ⟨none, some 12, .idx 2 (.t 10) (.t 11)⟩,
         ⟨none, some 13, .fld 0 (.t 12)⟩,
         ⟨none, some 14, .ld1 (.t 13)⟩,
         ⟨none, some 15, .call n_spec_l01In [.t 14, .k (.c (.i 0)), .k (.c (.i 1000000000))]⟩,
         ⟨none, some 16, .not (.t 15)⟩,
         ⟨none, some 17, .mv (.t 16)⟩,
         ⟨some (17, false), some 18, .mv (.t 0)⟩,
         ⟨some (17, false), some 19, .mv (.t 3)⟩,
         ⟨some (17, false), some 20, .idx 2 (.t 18) (.t 19)⟩,
         ⟨some (17, false), some 21, .fld 1 (.t 20)⟩,
         ⟨some (17, false), some 22, .ld1 (.t 21)⟩,
         ⟨some (17, false), some 23, .call n_spec_l01In [.t 22, .k (.c (.i 0)), .k (.c (.i 1000000000))]⟩,
         ⟨some (17, false), some 24, .not (.t 23)⟩,
         ⟨none, some 25, .pick (.t 17) (.k (.c (.b true))) (.t 24)⟩,
         ⟨none, some 26, .mv (.t 25)⟩,
         ⟨some (26, false), some 27, .mv (.t 3)⟩,
         ⟨some (26, false), some 28, .bin .gtr (.t 27) (.k (.c (.i 0)))⟩,
         ⟨some (26, false), some 29, .mv (.t 28)⟩,
         ⟨some (29, true), some 30, .mv (.t 0)⟩,
         ⟨some (29, true), some 31, .mv (.t 3)⟩,
         ⟨some (29, true), some 32, .idx 2 (.t 30) (.t 31)⟩,
         ⟨some (29, true), some 33, .fld 0 (.t 32)⟩,
         ⟨some (29, true), some 34, .ld1 (.t 33)⟩,
         ⟨some (29, true), some 35, .mv (.t 0)⟩,
         ⟨some (29, true), some 36, .mv (.t 3)⟩,
         ⟨some (29, true), some 37, .bin .sub (.t 36) (.k (.c (.i 1)))⟩,
         ⟨some (29, true), some 38, .idx 2 (.t 35) (.t 37)⟩,
         ⟨some (29, true), some 39, .fld 0 (.t 38)⟩,
         ⟨some (29, true), some 40, .ld1 (.t 39)⟩,
         ⟨some (29, true), some 41, .bin .leq (.t 34) (.t 40)⟩,
         ⟨some (29, true), some 42, .mv (.t 41)⟩,
         ⟨some (42, false), some 43, .mv (.t 0)⟩,
         ⟨some (42, false), some 44, .mv (.t 3)⟩,
         ⟨some (42, false), some 45, .idx 2 (.t 43) (.t 44)⟩,
         ⟨some (42, false), some 46, .fld 1 (.t 45)⟩,
         ⟨some (42, false), some 47, .ld1 (.t 46)⟩,
         ⟨some (42, false), some 48, .mv (.t 0)⟩,
         ⟨some (42, false), some 49, .mv (.t 3)⟩,
         ⟨some (42, false), some 50, .bin .sub (.t 49) (.k (.c (.i 1)))⟩,
         ⟨some (42, false), some 51, .idx 2 (.t 48) (.t 50)⟩,
         ⟨some (42, false), some 52, .fld 1 (.t 51)⟩,
         ⟨some (42, false), some 53, .ld1 (.t 52)⟩,
         ⟨some (42, false), some 54, .bin .lss (.t 47) (.t 53)⟩,
         ⟨some (29, true), some 55, .pick (.t 42) (.k (.c (.b true))) (.t 54)⟩,
         ⟨some (26, false), some 56, .pick (.t 29) (.t 55) (.k (.c (.b false)))⟩,
         ⟨none, some 57, .pick (.t 26) (.k (.c (.b true))) (.t 56)⟩])
      (.cond (.t 57)
       (.seq (.reg [
           ⟨none, some 2, .mv (.k (.c (.b false)))⟩])
        (.ret))
       (.skip))))
    (.reg [
      ⟨none, some 8, .mv (.t 3)⟩,
      ⟨none, some 9, .bin .add (.t 8) (.k (.c (.i 1)))⟩,
      ⟨none, some 3, .mv (.t 9)⟩]))))))
 (.seq (.reg [
    ⟨none, some 58, .mv (.t 0)⟩,
    ⟨none, some 59, .len (.t 58)⟩,
    ⟨none, some 60, .call n_spec_l01In [.t 59, .k (.c (.i 2)), .k (.c (.i 20))]⟩,
    ⟨none, some 2, .mv (.t 60)⟩])
 (.ret)))
theorem h_spec_TableOk : Has Try.prog n_spec_TableOk 61 c_spec_TableOk [.t 2] := ⟨by decide, Try.f207, _, Try.func207, rfl, rfl, by kernel_rfl, by kernel_rfl⟩

def c_spec_l02Sum : SC :=
 .seq (.reg [
    ⟨none, some 1, .box 3 (.t 0)⟩,
    ⟨none, some 2, .mv (.k (.c (.i 0)))⟩])
 (.seq (.reg [
    ⟨none, some 5, .fld 1 (.t 1)⟩,
    ⟨none, some 6, .ld1 (.t 5)⟩,
    ⟨none, some 3, .mv (.t 6)⟩])
 (.seq (.seq (.reg [
     ⟨none, some 4, .mv (.k (.c (.i 0)))⟩])
  (.block 0 (.loop (.seq (.seq (.reg [
        ⟨none, some 7, .mv (.t 4)⟩,
        ⟨none, some 8, .fld 2 (.t 1)⟩,
        ⟨none, some 9, .ld1 (.t 8)⟩,
        ⟨none, some 10, .len (.t 9)⟩,
        ⟨none, some 11, .bin .lss (.t 7) (.t 10)⟩])
     (.cond (.t 11)
      (.skip)
      (.exit 0)))
    (.seq (.block 1 (.reg [
        ⟨none, some 14, .mv (.t 3)⟩,
        ⟨none, some 15, .fld 2 (.t 1)⟩,
        ⟨none, some 16, .ld1 (.t 15)⟩,
        ⟨none, some 17, .mv (.t 4)⟩,
        ⟨none, some 18, .idx 1 (.t 16) (.t 17)⟩,
        ⟨none, some 19, .ld1 (.t 18)⟩,
        ⟨none, some 20, .bin .add (.t 14) (.t 19)⟩,
        ⟨none, some 3, .mv (.t 20)⟩]))
    (.reg [
      ⟨none, some 12, .mv (.t 4)⟩,
      ⟨none, some 13, .bin .add (.t 12) (.k (.c (.i 1)))⟩,
      ⟨none, some 4, .mv (.t 13)⟩]))))))
 (.seq (.reg [
    ⟨none, some 21, .mv (.t 3)⟩,
    ⟨none, some 2, .mv (.t 21)⟩])
 (.ret))))
theorem h_spec_l02Sum : Has Try.prog n_spec_l02Sum 22 c_spec_l02Sum [.t 2] := ⟨by decide, Try.f208, _, Try.func208, rfl, rfl, by kernel_rfl, by kernel_rfl⟩

def c_spec_PlaceOf : SC :=
 .seq (.reg [
    ⟨none, some 4, .mv (.k (.c (.i 0)))⟩,
    ⟨none, some 5, .mv (.k (.c (.b false)))⟩])
 (.seq (.seq (.reg [
     ⟨none, some 9, .mv (.t 0)⟩,
     ⟨none, some 10, .call n_spec_TableOk [.t 9]⟩,
     ⟨none, some 11, .not (.t 10)⟩,
     ⟨none, some 12, .mv (.t 11)⟩,
     ⟨some (12, false), some 13, .mv (.t 0)⟩,
     ⟨some (12, false), some 14, .mv (.t 0)⟩,
     ⟨some (12, false), some 15, .len (.t 14)⟩,
     ⟨some (12, false), some 16, .bin .sub (.t 15) (.k (.c (.i 1)))⟩,
     ⟨some (12, false), some 17, .idx 2 (.t 13) (.t 16)⟩,
     ⟨some (12, false), some 18, .fld 1 (.t 17)⟩,
     ⟨some (12, false), some 19, .ld1 (.t 18)⟩,
     ⟨some (12, false), some 20, .mv (.t 1)⟩,
     ⟨some (12, false), some 21, .bin .lss (.t 19) (.t 20)⟩,
     ⟨none, some 22, .pick (.t 12) (.k (.c (.b true))) (.t 21)⟩])
  (.cond (.t 22)
   (.seq (.reg [
       ⟨none, some 4, .mv (.k (.c (.i 0)))⟩,
       ⟨none, some 5, .mv (.k (.c (.b false)))⟩])
    (.ret))
   (.skip)))
 (.seq (.reg [
    ⟨none, some 23, .mv (.t 0)⟩,
    ⟨none, some 24, .idx 2 (.t 23) (.k (.c (.i 0)))⟩,
    ⟨none, some 25, .fld 0 (.t 24)⟩,
    ⟨none, some 26, .ld1 (.t 25)⟩,
    ⟨none, some 27, .bin .sub (.t 26) (.k (.c (.i 1)))⟩,
    ⟨none, some 6, .mv (.t 27)⟩])
 (.seq (.reg [
    ⟨none, some 28, .mv (.t 0)⟩,
    ⟨none, some 29, .mv (.t 0)⟩,
    ⟨none, some 30, .len (.t 29)⟩,
    ⟨none, some 31, .bin .sub (.t 30) (.k (.c (.i 1)))⟩,
    ⟨none, some 32, .idx 2 (.t 28) (.t 31)⟩,
    ⟨none, some 33, .fld 0 (.t 32)⟩,
    ⟨none, some 34, .ld1 (.t 33)⟩,
    ⟨none, some 7, .mv (.t 34)⟩])
 (.seq (.block 0 (.loop (.seq (.seq (.reg [
        ⟨none, some 35, .mv (.t 7)⟩,
        ⟨none, some 36, .mv (.t 6)⟩,
        ⟨none, some 37, .bin .sub (.t 35) (.t 36)⟩,
        ⟨none, some 38, .bin .gtr (.t 37) (.k (.c (.i 1)))⟩])
     (.cond (.t 38)
      (.skip)
      (.exit 0)))
    (.block 1 (.seq (.reg [
        ⟨none, some 39, .mv (.t 6)⟩,
        ⟨none, some 40, .mv (.t 7)⟩,
        ⟨none, some 41, .mv (.t 6)⟩,
        ⟨none, some 42, .bin .sub (.t 40) (.t 41)⟩,
        ⟨none, some 43, .bin .quo (.t 42) (.k (.c (.i 2)))⟩,
        ⟨none, some 44, .bin .add (.t 39) (.t 43)⟩,
        ⟨none, some 8, .mv (.t 44)⟩])
     (.seq (.reg [
        ⟨none, some 45, .mv (.t 0)⟩,
        ⟨none, some 46, .mv (.t 8)⟩,
        ⟨none, some 47, .call n_spec_ValueAt [.t 45, .t 46]⟩,
        ⟨none, some 48, .mv (.t 1)⟩,
        ⟨none, some 49, .bin .geq (.t 47) (.t 48)⟩])
     (.cond (.t 49)
      (.reg [
         ⟨none, some 50, .mv (.t 8)⟩,
         ⟨none, some 7, .mv (.t 50)⟩])
      (.reg [
         ⟨none, some 51, .mv (.t 8)⟩,
         ⟨none, some 6, .mv (.t 51)⟩]))))))))
 (.seq (.reg [
    ⟨none, some 52, .mv (.t 7)⟩,
    ⟨none, some 4, .mv (.t 52)⟩,
    ⟨none, some 5, .mv (.k (.c (.b true)))⟩])
 (.ret))))))
theorem h_spec_PlaceOf : Has Try.prog n_spec_PlaceOf 53 c_spec_PlaceOf [.t 4, .t 5] := ⟨by decide, Try.f209, _, Try.func209, rfl, rfl, by kernel_rfl, by kernel_rfl⟩

def c_laws_toPoint : SC :=
 .seq (.reg [
    ⟨none, some 1, .box 2 (.t 0)⟩,
    ⟨none, some 2, .alloc [.c (.i 0), .c (.i 0)]⟩])
 (.seq (.reg [
    ⟨none, some 3, .alloc [.c (.i 0), .c (.i 0)]⟩])
 (.seq (.reg [
    ⟨none, some 4, .fld 0 (.t 1)⟩,
    ⟨none, some 5, .ld1 (.t 4)⟩,
    ⟨none, some 6, .fld 0 (.t 3)⟩,
    ⟨none, none, .st1 (.t 6) (.t 5)⟩])
 (.seq (.reg [
    ⟨none, some 7, .fld 1 (.t 1)⟩,
    ⟨none, some 8, .ld1 (.t 7)⟩,
    ⟨none, some 9, .fld 1 (.t 3)⟩,
    ⟨none, none, .st1 (.t 9) (.t 8)⟩])
 (.seq (.reg [
    ⟨none, some 10, .ldn 2 (.t 3)⟩,
    ⟨none, none, .stn 2 (.t 2) (.t 10)⟩])
 (.ret)))))
theorem h_laws_toPoint : Has Try.prog n_laws_toPoint 11 c_laws_toPoint [.cl 2 2] := ⟨by decide, Try.f210, _, Try.func210, rfl, rfl, by kernel_rfl, by kernel_rfl⟩

def c_impl_TableOk : SC :=
 .seq (.reg [
    ⟨none, some 2, .mv (.k (.c (.b false)))⟩])
 (.seq (.seq (.reg [
     ⟨none, some 5, .mv (.t 0)⟩,
     ⟨none, some 6, .len (.t 5)⟩,
     ⟨none, some 7, .bin .lss (.t 6) (.k (.c (.i 2)))⟩,
     ⟨none, some 8, .mv (.t 7)⟩,
     ⟨some (8, false), some 9, .mv (.t 0)⟩,
     ⟨some (8, false), some 10, .len (.t 9)⟩,
     ⟨some (8, false), some 11, .bin .gtr (.t 10) (.k (.c (.i 20)))⟩,
     ⟨none, some 12, .pick (.t 8) (.k (.c (.b true))) (.t 11)⟩])
  (.cond (.t 12)
   (.seq (.reg [
       ⟨none, some 2, .mv (.k (.c (.b false)))⟩])
    (.ret))
   (.skip)))
 (.seq (.seq (.reg [
     ⟨none, some 13, .mv (.t 0)⟩,
     ⟨none, some 14, .len (.t 13)⟩,
     ⟨none, some 15, .mv (.k (.c (.i 0)))⟩])
  (.block 0 (.loop (.seq (.reg [
       ⟨none, some 16, .bin .lss (.t 15) (.t 14)⟩])
    (.seq (.cond (.t 16)
      (.skip)
      (.exit 0))
    (.seq (.block 1 (.seq (.reg [
         ⟨none, some 17, .mv (.t 15)⟩,
         ⟨none, some 18, .idx 2 (.t 13) (.t 15)⟩,
         ⟨none, some 19, .ldn 2 (.t 18)⟩,
         ⟨none, some 4, .alloc [.c (.i 0), .c (.i 0)]⟩,
         ⟨none, some 3, .mv (.t 17)⟩,
         ⟨none, none, .stn 2 (.t 4) (.t 19)⟩])
      (.seq (.seq (.reg [
          ⟨none, some 20, .fld 0 (.t 4)⟩,
          ⟨none, some 21, .ld1 (.t 20)⟩,
          ⟨none, some 22, .call n_impl_inRange [.t 21, .k (.c (.i 0)), .k (.c (.i 1000000000))]⟩,
          ⟨none, some 23, .not (.t 22)⟩,
          ⟨none, some 24, .mv (.t 23)⟩,
          ⟨some (24, false), some 25, .fld 1 (.t 4)⟩,
          ⟨some (24, false), some 26, .ld1 (.t 25)⟩,
          ⟨some (24, false), some 27, .call n_impl_inRange [.t 26, .k (.c (.i 0)), .k (.c (.i 1000000000))]⟩,
          ⟨some (24, false), some 28, .not (.t 27)⟩,
          ⟨none, some 29, .pick (.t 24) (.k (.c (.b true))) (.t 28)⟩])
       (.cond (.t 29)
        (.seq (.reg [
            ⟨none, some 2, .mv (.k (.c (.b false)))⟩])
         (.ret))
        (.skip)))
      (.seq (.regq [
         ⟨none, some 30, .mv (.t 3)⟩,
         ⟨none, some 31, .bin .gtr (.t 30) (.k (.c (.i 0)))⟩,
         ⟨none, some 32, .mv (.t 31)⟩,
         ⟨some (32, true), some 33, .mv (.t 0)⟩,
         ⟨some (32, true), some 34, .mv (.t 3)⟩,
         ⟨some (32, true), some 35, .bin .sub (.t 34) (.k (.c (.i 1)))⟩,
         ⟨some (32, true), some 36, .idx 2 (.t 33) (.t 35)⟩,
         ⟨some (32, true), some 37, .fld 0 (.t 36)⟩,
         ⟨some (32, true), some 38, .ld1 (.t 37)⟩,
         ⟨some (32, true), some 39, .fld 0 (.t 4)⟩,
         ⟨some (32, true), some 40, .ld1 (.t 39)⟩,
         ⟨some (32, true), some 41, .bin .geq (.t 38) (.t 40)⟩,
         ⟨some (32, true), some 42, .mv (.t 41)⟩,
         ⟨some (42, false), some 43, .mv (.t 0)⟩,
         ⟨some (42, false), some 44, .mv (.t 3)⟩,
         ⟨some (42, false), some 45, .bin .sub (.t 44) (.k (.c (.i 1)))⟩,
         ⟨some (42, false), some 46, .idx 2 (.t 43) (.t 45)⟩,
         ⟨some (42, false), some 47, .fld 1 (.t 46)⟩,
         ⟨some (42, false), some 48, .ld1 (.t 47)⟩,
         ⟨some (42, false), some 49, .fld 1 (.t 4)⟩,
         ⟨some (42, false), some 50, .ld1 (.t 49)⟩,
         ⟨some (42, false), some 51, .bin .gtr (.t 48) (.t 50)⟩,
         ⟨some (32, true), some 52, .pick (.t 42) (.k (.c (.b true))) (.t 51)⟩,
         ⟨none, some 53, .pick (.t 32) (.t 52) (.k (.c (.b false)))⟩])
      (.cond (.t 53)
       (.seq (.reg [
           ⟨none, some 2, .mv (.k (.c (.b false)))⟩])
        (.ret))
       (.skip))))))
    (.reg [
      ⟨none, some 54, .bin .add (.t 15) (.k (.c (.i 1)))⟩,
      ⟨none, some 15, .mv (.t 54)⟩])))))))
 (.seq (.reg [
    ⟨none, some 2, .mv (.k (.c (.b true)))⟩])
 (.ret))))
theorem h_impl_TableOk : Has Try.prog n_impl_TableOk 55 c_impl_TableOk [.t 2] := ⟨by decide, Try.f211, _, Try.func211, rfl, rfl, by kernel_rfl, by kernel_rfl⟩

def c_impl_PlaceOf : SC :=
 .seq (.reg [
    ⟨none, some 4, .mv (.k (.c (.i 0)))⟩,
    ⟨none, some 5, .mv (.k (.c (.b false)))⟩])
 (.seq (.seq (.reg [
     ⟨none, some 9, .mv (.t 0)⟩,
     ⟨none, some 10, .call n_impl_TableOk [.t 9]⟩,
     ⟨none, some 11, .not (.t 10)⟩,
     ⟨none, some 12, .mv (.t 11)⟩,
     ⟨some (12, false), some 13, .mv (.t 0)⟩,
     ⟨some (12, false), some 14, .mv (.t 0)⟩,
     ⟨some (12, false), some 15, .len (.t 14)⟩,
     ⟨some (12, false), some 16, .bin .sub (.t 15) (.k (.c (.i 1)))⟩,
     ⟨some (12, false), some 17, .idx 2 (.t 13) (.t 16)⟩,
     ⟨some (12, false), some 18, .fld 1 (.t 17)⟩,
     ⟨some (12, false), some 19, .ld1 (.t 18)⟩,
     ⟨some (12, false), some 20, .mv (.t 1)⟩,
     ⟨some (12, false), some 21, .bin .lss (.t 19) (.t 20)⟩,
     ⟨none, some 22, .pick (.t 12) (.k (.c (.b true))) (.t 21)⟩])
  (.cond (.t 22)
   (.seq (.reg [
       ⟨none, some 4, .mv (.k (.c (.i 0)))⟩,
       ⟨none, some 5, .mv (.k (.c (.b false)))⟩])
    (.ret))
   (.skip)))
 (.seq (.regq [
    ⟨none, some 23, .mv (.t 0)⟩,
    ⟨none, some 24, .idx 2 (.t 23) (.k (.c (.i 0)))⟩,
    ⟨none, some 25, .fld 0 (.t 24)⟩,
    ⟨none, some 26, .ld1 (.t 25)⟩,
    ⟨none, some 27, .mv (.t 0)⟩,
    ⟨none, some 28, .mv (.t 0)⟩,
    ⟨none, some 29, .len (.t 28)⟩,
    ⟨none, some 30, .bin .sub (.t 29) (.k (.c (.i 1)))⟩,
    ⟨none, some 31, .idx 2 (.t 27) (.t 30)⟩,
    ⟨none, some 32, .fld 0 (.t 31)⟩,
    ⟨none, some 33, .ld1 (.t 32)⟩,
    ⟨none, some 6, .mv (.t 26)⟩,
    ⟨none, some 7, .mv (.t 33)⟩])
 (.seq (.block 0 (.loop (.seq (.seq (.reg [
        ⟨none, some 34, .mv (.t 6)⟩,
        ⟨none, some 35, .mv (.t 7)⟩,
        ⟨none, some 36, .bin .lss (.t 34) (.t 35)⟩])
     (.cond (.t 36)
      (.skip)
      (.exit 0)))
    (.block 1 (.seq (.reg [
        ⟨none, some 37, .mv (.t 6)⟩,
        ⟨none, some 38, .mv (.t 7)⟩,
        ⟨none, some 39, .bin .add (.t 37) (.t 38)⟩,
        ⟨none, some 40, .bin .quo (.t 39) (.k (.c (.i 2)))⟩,
        ⟨none, some 8, .mv (.t 40)⟩])
     (.seq (.reg [
        ⟨none, some 41, .mv (.t 0)⟩,
        ⟨none, some 42, .mv (.t 8)⟩,
        ⟨none, some 43, .call n_impl_ValueAt [.t 41, .t 42]⟩,
        ⟨none, some 44, .mv (.t 1)⟩,
        ⟨none, some 45, .bin .geq (.t 43) (.t 44)⟩])
     (.cond (.t 45)
      (.reg [
         ⟨none, some 46, .mv (.t 8)⟩,
         ⟨none, some 7, .mv (.t 46)⟩])
      (.reg [
         ⟨none, some 47, .mv (.t 8)⟩,
         ⟨none, some 48, .bin .add (.t 47) (.k (.c (.i 1)))⟩,
         ⟨none, some 6, .mv (.t 48)⟩]))))))))
 (.seq (.reg [
    ⟨none, some 49, .mv (.t 6)⟩,
    ⟨none, some 4, .mv (.t 49)⟩,
    ⟨none, some 5, .mv (.k (.c (.b true)))⟩])
 (.ret)))))
theorem h_impl_PlaceOf : Has Try.prog n_impl_PlaceOf 50 c_impl_PlaceOf [.t 4, .t 5] := ⟨by decide, Try.f212, _, Try.func212, rfl, rfl, by kernel_rfl, by kernel_rfl⟩

def c_laws_eqPoint : SC :=
 .seq (.reg [
    ⟨none, some 2, .box 2 (.t 0)⟩,
    ⟨none, some 3, .box 2 (.t 1)⟩,
    ⟨none, some 4, .mv (.k (.c (.b false)))⟩])
 (.seq (.seq (.reg [
     ⟨none, some 5, .fld 0 (.t 2)⟩,
     ⟨none, some 6, .ld1 (.t 5)⟩,
     ⟨none, some 7, .fld 0 (.t 3)⟩,
     ⟨none, some 8, .ld1 (.t 7)⟩,
     ⟨none, some 9, .bin .neq (.t 6) (.t 8)⟩])
  (.cond (.t 9)
   (.seq (.reg [
       ⟨none, some 4, .mv (.k (.c (.b false)))⟩])
    (.ret))
   (.skip)))
 (.seq (.seq (.reg [
     ⟨none, some 10, .fld 1 (.t 2)⟩,
     ⟨none, some 11, .ld1 (.t 10)⟩,
     ⟨none, some 12, .fld 1 (.t 3)⟩,
     ⟨none, some 13, .ld1 (.t 12)⟩,
     ⟨none, some 14, .bin .neq (.t 11) (.t 13)⟩])
  (.cond (.t 14)
   (.seq (.reg [
       ⟨none, some 4, .mv (.k (.c (.b false)))⟩])
    (.ret))
   (.skip)))
 (.seq (.reg [
    ⟨none, some 4, .mv (.k (.c (.b true)))⟩])
 (.ret))))
theorem h_laws_eqPoint : Has Try.prog n_laws_eqPoint 15 c_laws_eqPoint [.t 4] := ⟨by decide, Try.f213, _, Try.func213, rfl, rfl, by kernel_rfl, by kernel_rfl⟩

def c_impl_ValueAt : SC :=
 .seq (.reg [
    ⟨none, some 4, .mv (.k (.c (.i 0)))⟩])
 (.seq (.seq (.reg [
     ⟨none, some 9, .mv (.t 0)⟩,
     ⟨none, some 10, .call n_impl_TableOk [.t 9]⟩,
     ⟨none, some 11, .not (.t 10)⟩])
  (.cond (.t 11)
   (.seq (.reg [
       ⟨none, some 4, .mv (.k (.c (.i 0)))⟩])
    (.ret))
   (.skip)))
 (.seq (.reg [
    ⟨none, some 12, .mv (.t 0)⟩,
    ⟨none, some 13, .mv (.t 0)⟩,
    ⟨none, some 14, .len (.t 13)⟩,
    ⟨none, some 15, .bin .sub (.t 14) (.k (.c (.i 1)))⟩,
    ⟨none, some 16, .idx 2 (.t 12) (.t 15)⟩,
    ⟨none, some 17, .ldn 2 (.t 16)⟩,
    ⟨none, some 5, .alloc [.c (.i 0), .c (.i 0)]⟩,
    ⟨none, none, .stn 2 (.t 5) (.t 17)⟩])
 (.seq (.seq (.reg [
     ⟨none, some 18, .mv (.t 1)⟩,
     ⟨none, some 19, .mv (.t 0)⟩,
     ⟨none, some 20, .idx 2 (.t 19) (.k (.c (.i 0)))⟩,
     ⟨none, some 21, .fld 0 (.t 20)⟩,
     ⟨none, some 22, .ld1 (.t 21)⟩,
     ⟨none, some 23, .bin .leq (.t 18) (.t 22)⟩])
  (.cond (.t 23)
   (.seq (.reg [
       ⟨none, some 24, .mv (.t 0)⟩,
       ⟨none, some 25, .idx 2 (.t 24) (.k (.c (.i 0)))⟩,
       ⟨none, some 26, .fld 1 (.t 25)⟩,
       ⟨none, some 27, .ld1 (.t 26)⟩,
       ⟨none, some 4, .mv (.t 27)⟩])
    (.ret))
   (.skip)))
 (.seq (.seq (.reg [
     ⟨none, some 28, .mv (.t 1)⟩,
     ⟨none, some 29, .fld 0 (.t 5)⟩,
     ⟨none, some 30, .ld1 (.t 29)⟩,
     ⟨none, some 31, .bin .geq (.t 28) (.t 30)⟩])
  (.cond (.t 31)
   (.seq (.reg [
       ⟨none, some 32, .fld 1 (.t 5)⟩,
       ⟨none, some 33, .ld1 (.t 32)⟩,
       ⟨none, some 4, .mv (.t 33)⟩])
    (.ret))
   (.skip)))
 (.seq (.reg [
    ⟨none, some 6, .mv (.k (.c (.i 0)))⟩])
 (.seq (.block 0 (.loop (.seq (.seq (.reg [
        ⟨none, some 34, .mv (.t 0)⟩,
        ⟨none, some 35, .mv (.t 6)⟩,
        ⟨none, some 36, .bin .add (.t 35) (.k (.c (.i 1)))⟩,
        ⟨none, some 37, .idx 2 (.t 34) (.t 36)⟩,
        ⟨none, some 38, .fld 0 (.t 37)⟩,
        ⟨none, some 39, .ld1 (.t 38)⟩,
        ⟨none, some 40, .mv (.t 1)⟩,
        ⟨none, some 41, .bin .leq (.t 39) (.t 40)⟩])
     (.cond (.t 41)
      (.skip)
      (.exit 0)))
    (.block 1 (.reg [
       ⟨none, some 42, .mv (.t 6)⟩,
       ⟨none, some 43, .bin .add (.t 42) (.k (.c (.i 1)))⟩,
       ⟨none, some 6, .mv (.t 43)⟩])))))
 (.seq (.rege [
    ⟨0, false, [], ⟨none, some 44, .mv (.t 0)⟩⟩,
    ⟨0, false, [], ⟨none, some 45, .mv (.t 6)⟩⟩,
    ⟨0, false, [], ⟨none, some 46, .idx 2 (.t 44) (.t 45)⟩⟩,
    ⟨0, false, [], ⟨none, some 47, .ldn 2 (.t 46)⟩⟩,
    ⟨0, true, [], ⟨none, some 48, .mv (.t 0)⟩⟩,
    ⟨0, true, [], ⟨none, some 49, .mv (.t 6)⟩⟩,
    ⟨0, true, [], ⟨none, some 50, .bin .add (.t 49) (.k (.c (.i 1)))⟩⟩,
    ⟨0, true, [], ⟨none, some 51, .idx 2 (.t 48) (.t 50)⟩⟩,
    ⟨0, true, [], ⟨none, some 52, .ldn 2 (.t 51)⟩⟩,
    ⟨1, false, [], ⟨none, some 7, .alloc [.c (.i 0), .c (.i 0)]⟩⟩,
    ⟨1, false, [], ⟨none, some 8, .alloc [.c (.i 0), .c (.i 0)]⟩⟩,
    ⟨2, false, [4, 5, 6, 7, 8], ⟨none, none, .stn 2 (.t 7) (.t 47)⟩⟩,
    ⟨2, false, [], ⟨none, none, .stn 2 (.t 8) (.t 52)⟩⟩])
 (.seq (.regq [
    ⟨none, some 53, .fld 1 (.t 7)⟩,
    ⟨none, some 54, .ld1 (.t 53)⟩,
    ⟨none, some 55, .mv (.t 1)⟩,
    ⟨none, some 56, .fld 0 (.t 7)⟩,
    ⟨none, some 57, .ld1 (.t 56)⟩,
    ⟨none, some 58, .bin .sub (.t 55) (.t 57)⟩,
    ⟨none, some 59, .fld 1 (.t 8)⟩,
    ⟨none, some 60, .ld1 (.t 59)⟩,
    ⟨none, some 61, .fld 1 (.t 7)⟩,
    ⟨none, some 62, .ld1 (.t 61)⟩,
    ⟨none, some 63, .bin .sub (.t 60) (.t 62)⟩,
    ⟨none, some 64, .bin .mul (.t 58) (.t 63)⟩,
    ⟨none, some 65, .fld 0 (.t 8)⟩,
    ⟨none, some 66, .ld1 (.t 65)⟩,
    ⟨none, some 67, .fld 0 (.t 7)⟩,
    ⟨none, some 68, .ld1 (.t 67)⟩,
    ⟨none, some 69, .bin .sub (.t 66) (.t 68)⟩,
    ⟨none, some 70, .bin .quo (.t 64) (.t 69)⟩,
    ⟨none, some 71, .bin .add (.t 54) (.t 70)⟩,
    ⟨none, some 4, .mv (.t 71)⟩])
 (.ret)))))))))
theorem h_impl_ValueAt : Has Try.prog n_impl_ValueAt 72 c_impl_ValueAt [.t 4] := ⟨by decide, Try.f232, _, Try.func232, rfl, rfl, by kernel_rfl, by kernel_rfl⟩

end Go.Proofs.Ytfmgadchjiplmaa
