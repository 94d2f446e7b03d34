/- Functions of this seat in the small language, written by a program (GenCode) out of the translation; each is held against the translation by the kernel. -/
import Derived.Test.YtfmgadchjiplmaaMNames
import Derived.KernelRfl
set_option linter.all false
namespace Go.Proofs.Ytfmgadchjiplmaa
open Go.RowKit

def c_laws_FnTurns : SC :=
 .seq (.reg [
    ⟨none, some 2, .mv (.k (.c (.b false)))⟩])
 (.seq (.seq (.reg [
     ⟨none, some 12, .mv (.t 0)⟩,
     ⟨none, some 13, .call n_laws_big [.t 12]⟩])
  (.cond (.t 13)
   (.seq (.reg [
       ⟨none, some 2, .mv (.k (.c (.b true)))⟩])
    (.ret))
   (.skip)))
 (.seq (.reg [
    ⟨none, some 14, .bld [.c (.b false), .c (.i 0)] []⟩,
    ⟨none, some 3, .alloc [.c (.b false), .c (.i 0)]⟩,
    ⟨none, none, .stn 2 (.t 3) (.t 14)⟩])
 (.seq (.reg [
    ⟨none, some 15, .mv (.t 0)⟩,
    ⟨none, some 16, .call n_spec_DrawCalls [.t 15]⟩,
    ⟨none, some 4, .mv (.t 16)⟩])
 (.seq (.reg [
    ⟨none, some 5, .mv (.k (.c (.i 0)))⟩])
 (.seq (.reg [
    ⟨none, some 6, .mv (.k (.c (.b false)))⟩])
 (.seq (.seq (.reg [
     ⟨none, some 7, .mv (.k (.c (.i 0)))⟩])
  (.block 0 (.loop (.seq (.seq (.reg [
        ⟨none, some 17, .mv (.t 7)⟩,
        ⟨none, some 18, .bin .lss (.t 17) (.k (.c (.i 30)))⟩])
     (.cond (.t 18)
      (.skip)
      (.exit 0)))
    (.seq (.block 1 (.seq (.reg [
         ⟨none, some 22, .mv (.t 4)⟩,
         ⟨none, some 23, .ldn 2 (.t 3)⟩,
         ⟨none, some 24, .call n_impl_NextSide [.t 22, .t 23, .k (.c (.i 100))]⟩,
         ⟨none, some 21, .mv (.t 24)⟩,
         ⟨none, some 25, .ext 0 (.t 21)⟩,
         ⟨none, some 26, .ext 1 (.t 21)⟩,
         ⟨none, some 8, .mv (.t 25)⟩,
         ⟨none, some 9, .mv (.t 26)⟩])
      (.seq (.seq (.reg [
          ⟨none, some 27, .mv (.t 9)⟩,
          ⟨none, some 28, .mv (.t 4)⟩,
          ⟨none, some 29, .len (.t 28)⟩,
          ⟨none, some 30, .bin .gtr (.t 29) (.k (.c (.i 0)))⟩,
          ⟨none, some 31, .beq true (.t 27) (.t 30)⟩])
       (.cond (.t 31)
        (.seq (.reg [
            ⟨none, some 2, .mv (.k (.c (.b false)))⟩])
         (.ret))
        (.skip)))
      (.seq (.seq (.reg [
          ⟨none, some 32, .mv (.t 9)⟩,
          ⟨none, some 33, .not (.t 32)⟩])
       (.cond (.t 33)
        (.exit 0)
        (.skip)))
      (.seq (.reg [
         ⟨none, some 10, .mv (.k (.c (.i 0)))⟩])
      (.seq (.seq (.reg [
          ⟨none, some 11, .mv (.k (.c (.i 0)))⟩])
       (.block 2 (.loop (.seq (.seq (.reg [
             ⟨none, some 34, .mv (.t 11)⟩,
             ⟨none, some 35, .mv (.t 4)⟩,
             ⟨none, some 36, .len (.t 35)⟩,
             ⟨none, some 37, .bin .lss (.t 34) (.t 36)⟩])
          (.cond (.t 37)
           (.skip)
           (.exit 2)))
         (.seq (.block 3 (.reg [
             ⟨none, some 40, .mv (.t 10)⟩,
             ⟨none, some 41, .mv (.t 4)⟩,
             ⟨none, some 42, .mv (.t 11)⟩,
             ⟨none, some 43, .idx 4 (.t 41) (.t 42)⟩,
             ⟨none, some 44, .fld 0 (.t 43)⟩,
             ⟨none, some 45, .fld 0 (.t 44)⟩,
             ⟨none, some 46, .ld1 (.t 45)⟩,
             ⟨none, some 47, .call n_laws_btoi [.t 46]⟩,
             ⟨none, some 48, .bin .add (.t 40) (.t 47)⟩,
             ⟨none, some 10, .mv (.t 48)⟩]))
         (.reg [
           ⟨none, some 38, .mv (.t 11)⟩,
           ⟨none, some 39, .bin .add (.t 38) (.k (.c (.i 1)))⟩,
           ⟨none, some 11, .mv (.t 39)⟩]))))))
      (.seq (.seq (.reg [
          ⟨none, some 49, .mv (.t 8)⟩,
          ⟨none, some 50, .mv (.t 49)⟩,
          ⟨some (50, true), some 51, .mv (.t 10)⟩,
          ⟨some (50, true), some 52, .bin .eql (.t 51) (.k (.c (.i 0)))⟩,
          ⟨none, some 53, .pick (.t 50) (.t 52) (.k (.c (.b false)))⟩,
          ⟨none, some 54, .mv (.t 53)⟩,
          ⟨some (54, false), some 55, .mv (.t 8)⟩,
          ⟨some (54, false), some 56, .not (.t 55)⟩,
          ⟨some (54, false), some 57, .mv (.t 56)⟩,
          ⟨some (57, true), some 58, .mv (.t 10)⟩,
          ⟨some (57, true), some 59, .mv (.t 4)⟩,
          ⟨some (57, true), some 60, .len (.t 59)⟩,
          ⟨some (57, true), some 61, .bin .eql (.t 58) (.t 60)⟩,
          ⟨some (54, false), some 62, .pick (.t 57) (.t 61) (.k (.c (.b false)))⟩,
          ⟨none, some 63, .pick (.t 54) (.k (.c (.b true))) (.t 62)⟩])
       (.cond (.t 63)
        (.seq (.reg [
            ⟨none, some 2, .mv (.k (.c (.b false)))⟩])
         (.ret))
        (.skip)))
      (.seq (.reg [
         ⟨none, some 64, .ldn 2 (.t 3)⟩,
         ⟨none, some 65, .mv (.t 8)⟩,
         ⟨none, some 66, .call n_impl_NoteTurn [.t 64, .t 65]⟩,
         ⟨none, none, .stn 2 (.t 3) (.t 66)⟩])
      (.seq (.seq (.reg [
          ⟨none, some 67, .mv (.t 7)⟩,
          ⟨none, some 68, .bin .gtr (.t 67) (.k (.c (.i 0)))⟩,
          ⟨none, some 69, .mv (.t 68)⟩,
          ⟨some (69, true), some 70, .mv (.t 8)⟩,
          ⟨some (69, true), some 71, .mv (.t 6)⟩,
          ⟨some (69, true), some 72, .beq false (.t 70) (.t 71)⟩,
          ⟨none, some 73, .pick (.t 69) (.t 72) (.k (.c (.b false)))⟩])
       (.cond (.t 73)
        (.reg [
           ⟨none, some 74, .mv (.t 5)⟩,
           ⟨none, some 75, .bin .add (.t 74) (.k (.c (.i 1)))⟩,
           ⟨none, some 5, .mv (.t 75)⟩])
        (.reg [
           ⟨none, some 5, .mv (.k (.c (.i 1)))⟩])))
      (.seq (.reg [
         ⟨none, some 76, .mv (.t 8)⟩,
         ⟨none, some 6, .mv (.t 76)⟩])
      (.seq (.reg [
         ⟨none, some 77, .mv (.t 5)⟩,
         ⟨none, some 78, .bin .gtr (.t 77) (.k (.c (.i 3)))⟩,
         ⟨none, some 79, .mv (.t 78)⟩,
         ⟨some (79, true), some 80, .mv (.t 10)⟩,
         ⟨some (79, true), some 81, .bin .gtr (.t 80) (.k (.c (.i 0)))⟩,
         ⟨none, some 82, .pick (.t 79) (.t 81) (.k (.c (.b false)))⟩,
         ⟨none, some 83, .mv (.t 82)⟩,
         ⟨some (83, true), some 84, .mv (.t 10)⟩,
         ⟨some (83, true), some 85, .mv (.t 4)⟩,
         ⟨some (83, true), some 86, .len (.t 85)⟩,
         ⟨some (83, true), some 87, .bin .lss (.t 84) (.t 86)⟩,
         ⟨none, some 88, .pick (.t 83) (.t 87) (.k (.c (.b false)))⟩])
      (.cond (.t 88)
       (.seq (.reg [
           ⟨none, some 2, .mv (.k (.c (.b false)))⟩])
        (.ret))
       (.skip)))))))))))))
    (.reg [
      ⟨none, some 19, .mv (.t 7)⟩,
      ⟨none, some 20, .bin .add (.t 19) (.k (.c (.i 1)))⟩,
      ⟨none, some 7, .mv (.t 20)⟩]))))))
 (.seq (.reg [
    ⟨none, some 89, .ldn 2 (.t 3)⟩,
    ⟨none, some 90, .call n_impl_TurnOk [.t 89]⟩,
    ⟨none, some 2, .mv (.t 90)⟩])
 (.ret))))))))
theorem h_laws_FnTurns : Has Try.prog n_laws_FnTurns 91 c_laws_FnTurns [.t 2] := ⟨by decide, Try.f8, _, Try.func8, rfl, rfl, by kernel_rfl, by kernel_rfl⟩

def c_spec_DrawCalls : SC :=
 .seq (.reg [
    ⟨none, some 2, .mv (.k (.nil 4))⟩])
 (.seq (.reg [
    ⟨none, some 6, .mv (.t 0)⟩,
    ⟨none, some 7, .call n_spec_l01New [.t 6]⟩,
    ⟨none, some 3, .mv (.t 7)⟩])
 (.seq (.reg [
    ⟨none, some 8, .bsl 4 []⟩,
    ⟨none, some 4, .mv (.t 8)⟩])
 (.seq (.seq (.reg [
     ⟨none, some 9, .mv (.t 3)⟩,
     ⟨none, some 10, .call n_spec_l01Below [.t 9, .k (.c (.i 7))]⟩,
     ⟨none, some 5, .mv (.t 10)⟩])
  (.block 0 (.loop (.seq (.seq (.reg [
        ⟨none, some 11, .mv (.t 5)⟩,
        ⟨none, some 12, .bin .gtr (.t 11) (.k (.c (.i 0)))⟩])
     (.cond (.t 12)
      (.skip)
      (.exit 0)))
    (.seq (.block 1 (.reg [
        ⟨none, some 15, .mv (.t 4)⟩,
        ⟨none, some 16, .mv (.t 3)⟩,
        ⟨none, some 17, .mv (.t 5)⟩,
        ⟨none, some 18, .bin .mul (.k (.c (.i 10))) (.t 17)⟩,
        ⟨none, some 19, .call n_spec_l06Call [.t 16, .t 18, .k (.c (.i 100))]⟩,
        ⟨none, some 20, .bsl 4 [.t 19]⟩,
        ⟨none, some 21, .app 4 48 (.t 15) (.t 20)⟩,
        ⟨none, some 4, .mv (.t 21)⟩]))
    (.reg [
      ⟨none, some 13, .mv (.t 5)⟩,
      ⟨none, some 14, .bin .sub (.t 13) (.k (.c (.i 1)))⟩,
      ⟨none, some 5, .mv (.t 14)⟩]))))))
 (.seq (.reg [
    ⟨none, some 22, .mv (.t 4)⟩,
    ⟨none, some 2, .mv (.t 22)⟩])
 (.ret)))))
theorem h_spec_DrawCalls : Has Try.prog n_spec_DrawCalls 23 c_spec_DrawCalls [.t 2] := ⟨by decide, Try.f49, _, Try.func49, rfl, rfl, by kernel_rfl, by kernel_rfl⟩

def c_impl_NextSide : SC :=
 .seq (.reg [
    ⟨none, some 4, .box 2 (.t 1)⟩,
    ⟨none, some 6, .mv (.k (.c (.b false)))⟩,
    ⟨none, some 7, .mv (.k (.c (.b false)))⟩])
 (.seq (.reg [
    ⟨none, some 12, .mv (.t 0)⟩,
    ⟨none, some 13, .mv (.t 2)⟩,
    ⟨none, some 14, .call n_impl_OrderCalls [.t 12, .t 13]⟩,
    ⟨none, some 8, .mv (.t 14)⟩])
 (.seq (.seq (.reg [
     ⟨none, some 15, .mv (.t 8)⟩,
     ⟨none, some 16, .len (.t 15)⟩,
     ⟨none, some 17, .bin .eql (.t 16) (.k (.c (.i 0)))⟩,
     ⟨none, some 18, .mv (.t 17)⟩,
     ⟨some (18, false), some 19, .ldn 2 (.t 4)⟩,
     ⟨some (18, false), some 20, .call n_impl_TurnOk [.t 19]⟩,
     ⟨some (18, false), some 21, .not (.t 20)⟩,
     ⟨none, some 22, .pick (.t 18) (.k (.c (.b true))) (.t 21)⟩])
  (.cond (.t 22)
   (.seq (.reg [
       ⟨none, some 6, .mv (.k (.c (.b false)))⟩,
       ⟨none, some 7, .mv (.k (.c (.b false)))⟩])
    (.ret))
   (.skip)))
 (.seq (.reg [
    ⟨none, some 23, .mv (.t 0)⟩,
    ⟨none, some 24, .mv (.t 8)⟩,
    ⟨none, some 25, .idx 1 (.t 24) (.k (.c (.i 0)))⟩,
    ⟨none, some 26, .ld1 (.t 25)⟩,
    ⟨none, some 27, .idx 4 (.t 23) (.t 26)⟩,
    ⟨none, some 28, .fld 0 (.t 27)⟩,
    ⟨none, some 29, .fld 0 (.t 28)⟩,
    ⟨none, some 30, .ld1 (.t 29)⟩,
    ⟨none, some 9, .mv (.t 30)⟩])
 (.seq (.seq (.reg [
     ⟨none, some 31, .mv (.t 9)⟩,
     ⟨none, some 32, .fld 0 (.t 4)⟩,
     ⟨none, some 33, .ld1 (.t 32)⟩,
     ⟨none, some 34, .beq true (.t 31) (.t 33)⟩,
     ⟨none, some 35, .mv (.t 34)⟩,
     ⟨some (35, false), some 36, .fld 1 (.t 4)⟩,
     ⟨some (35, false), some 37, .ld1 (.t 36)⟩,
     ⟨some (35, false), some 38, .bin .lss (.t 37) (.k (.c (.i 3)))⟩,
     ⟨none, some 39, .pick (.t 35) (.k (.c (.b true))) (.t 38)⟩])
  (.cond (.t 39)
   (.seq (.reg [
       ⟨none, some 40, .mv (.t 9)⟩,
       ⟨none, some 6, .mv (.t 40)⟩,
       ⟨none, some 7, .mv (.k (.c (.b true)))⟩])
    (.ret))
   (.skip)))
 (.seq (.seq (.reg [
     ⟨none, some 41, .mv (.t 8)⟩,
     ⟨none, some 42, .len (.t 41)⟩,
     ⟨none, some 43, .mv (.k (.c (.i 0)))⟩])
  (.block 0 (.loop (.seq (.reg [
       ⟨none, some 44, .bin .lss (.t 43) (.t 42)⟩])
    (.seq (.cond (.t 44)
      (.skip)
      (.exit 0))
    (.seq (.block 1 (.seq (.reg [
         ⟨none, some 45, .idx 1 (.t 41) (.t 43)⟩,
         ⟨none, some 46, .ld1 (.t 45)⟩,
         ⟨none, some 11, .mv (.t 46)⟩])
      (.seq (.reg [
         ⟨none, some 47, .mv (.t 0)⟩,
         ⟨none, some 48, .mv (.t 11)⟩,
         ⟨none, some 49, .idx 4 (.t 47) (.t 48)⟩,
         ⟨none, some 50, .fld 0 (.t 49)⟩,
         ⟨none, some 51, .fld 0 (.t 50)⟩,
         ⟨none, some 52, .ld1 (.t 51)⟩,
         ⟨none, some 53, .mv (.t 9)⟩,
         ⟨none, some 54, .beq true (.t 52) (.t 53)⟩])
      (.cond (.t 54)
       (.seq (.reg [
           ⟨none, some 55, .mv (.t 9)⟩,
           ⟨none, some 56, .not (.t 55)⟩,
           ⟨none, some 6, .mv (.t 56)⟩,
           ⟨none, some 7, .mv (.k (.c (.b true)))⟩])
        (.ret))
       (.skip)))))
    (.reg [
      ⟨none, some 57, .bin .add (.t 43) (.k (.c (.i 1)))⟩,
      ⟨none, some 43, .mv (.t 57)⟩])))))))
 (.seq (.reg [
    ⟨none, some 58, .mv (.t 9)⟩,
    ⟨none, some 6, .mv (.t 58)⟩,
    ⟨none, some 7, .mv (.k (.c (.b true)))⟩])
 (.ret)))))))
theorem h_impl_NextSide : Has Try.prog n_impl_NextSide 59 c_impl_NextSide [.t 6, .t 7] := ⟨by decide, Try.f50, _, Try.func50, rfl, rfl, by kernel_rfl, by kernel_rfl⟩

def c_laws_btoi : SC :=
 .seq (.reg [
    ⟨none, some 2, .mv (.k (.c (.i 0)))⟩])
 (.seq (.seq (.reg [
     ⟨none, some 3, .mv (.t 0)⟩])
  (.cond (.t 3)
   (.seq (.reg [
       ⟨none, some 2, .mv (.k (.c (.i 1)))⟩])
    (.ret))
   (.skip)))
 (.seq (.reg [
    ⟨none, some 2, .mv (.k (.c (.i 0)))⟩])
 (.ret)))
theorem h_laws_btoi : Has Try.prog n_laws_btoi 4 c_laws_btoi [.t 2] := ⟨by decide, Try.f51, _, Try.func51, rfl, rfl, by kernel_rfl, by kernel_rfl⟩

def c_impl_NoteTurn : SC :=
 .seq (.reg [
    ⟨none, some 2, .box 2 (.t 0)⟩,
    ⟨none, some 4, .alloc [.c (.b false), .c (.i 0)]⟩])
 (.seq (.seq (.reg [
     ⟨none, some 5, .ldn 2 (.t 2)⟩,
     ⟨none, some 6, .call n_impl_TurnOk [.t 5]⟩,
     ⟨none, some 7, .not (.t 6)⟩])
  (.cond (.t 7)
   (.seq (.reg [
       ⟨none, some 8, .ldn 2 (.t 2)⟩,
       ⟨none, none, .stn 2 (.t 4) (.t 8)⟩])
    (.ret))
   (.skip)))
 (.seq (.seq (.reg [
     ⟨none, some 9, .fld 0 (.t 2)⟩,
     ⟨none, some 10, .ld1 (.t 9)⟩,
     ⟨none, some 11, .mv (.t 1)⟩,
     ⟨none, some 12, .beq false (.t 10) (.t 11)⟩])
  (.cond (.t 12)
   (.seq (.reg [
       ⟨none, some 13, .mv (.t 1)⟩,
       ⟨none, some 14, .fld 1 (.t 2)⟩,
       ⟨none, some 15, .ld1 (.t 14)⟩,
       ⟨none, some 16, .bin .add (.t 15) (.k (.c (.i 1)))⟩,
       ⟨none, some 17, .mn [.t 16, .k (.c (.i 1000000))]⟩,
       ⟨none, some 18, .bld [.c (.b false), .c (.i 0)] [(0, 1, .t 13), (1, 1, .t 17)]⟩,
       ⟨none, none, .stn 2 (.t 4) (.t 18)⟩])
    (.ret))
   (.skip)))
 (.seq (.reg [
    ⟨none, some 19, .mv (.t 1)⟩,
    ⟨none, some 20, .bld [.c (.b false), .c (.i 0)] [(0, 1, .t 19), (1, 1, .k (.c (.i 1)))]⟩,
    ⟨none, none, .stn 2 (.t 4) (.t 20)⟩])
 (.ret))))
theorem h_impl_NoteTurn : Has Try.prog n_impl_NoteTurn 21 c_impl_NoteTurn [.cl 4 2] := ⟨by decide, Try.f52, _, Try.func52, rfl, rfl, by kernel_rfl, by kernel_rfl⟩

def c_impl_TurnOk : SC :=
 .seq (.reg [
    ⟨none, some 1, .box 2 (.t 0)⟩,
    ⟨none, some 2, .mv (.k (.c (.b false)))⟩])
 (.seq (.reg [
    ⟨none, some 3, .fld 1 (.t 1)⟩,
    ⟨none, some 4, .ld1 (.t 3)⟩,
    ⟨none, some 5, .call n_impl_inRange [.t 4, .k (.c (.i 0)), .k (.c (.i 1000000))]⟩,
    ⟨none, some 2, .mv (.t 5)⟩])
 (.ret))
theorem h_impl_TurnOk : Has Try.prog n_impl_TurnOk 6 c_impl_TurnOk [.t 2] := ⟨by decide, Try.f53, _, Try.func53, rfl, rfl, by kernel_rfl, by kernel_rfl⟩

def c_impl_OrderCalls : SC :=
 .seq (.reg [
    ⟨none, some 2, .box 1 (.t 0)⟩,
    ⟨none, some 3, .box 1 (.t 1)⟩,
    ⟨none, some 4, .mv (.k (.nil 1))⟩])
 (.seq (.reg [
    ⟨none, some 5, .mv (.k (.nil 1))⟩])
 (.seq (.seq (.reg [
     ⟨none, some 8, .ld1 (.t 2)⟩,
     ⟨none, some 9, .len (.t 8)⟩,
     ⟨none, some 10, .mv (.k (.c (.i 0)))⟩])
  (.block 0 (.loop (.seq (.reg [
       ⟨none, some 11, .bin .lss (.t 10) (.t 9)⟩])
    (.seq (.cond (.t 11)
      (.skip)
      (.exit 0))
    (.seq (.block 1 (.seq (.reg [
         ⟨none, some 12, .mv (.t 10)⟩,
         ⟨none, some 13, .idx 4 (.t 8) (.t 10)⟩,
         ⟨none, some 14, .ldn 4 (.t 13)⟩,
         ⟨none, some 7, .alloc [.c (.b false), .nil 1, .c (.i 0), .c (.i 0)]⟩,
         ⟨none, some 6, .mv (.t 12)⟩,
         ⟨none, none, .stn 4 (.t 7) (.t 14)⟩])
      (.seq (.reg [
         ⟨none, some 15, .ldn 4 (.t 7)⟩,
         ⟨none, some 16, .ld1 (.t 3)⟩,
         ⟨none, some 17, .call n_impl_RankOf [.t 15, .t 16]⟩,
         ⟨none, some 18, .bin .neq (.t 17) (.k (.c (.i 3)))⟩])
      (.cond (.t 18)
       (.reg [
          ⟨none, some 19, .mv (.t 5)⟩,
          ⟨none, some 20, .mv (.t 6)⟩,
          ⟨none, some 21, .bsl 1 [.t 20]⟩,
          ⟨none, some 22, .app 1 8 (.t 19) (.t 21)⟩,
          ⟨none, some 5, .mv (.t 22)⟩])
       (.skip)))))
    (.reg [
      ⟨none, some 23, .bin .add (.t 10) (.k (.c (.i 1)))⟩,
      ⟨none, some 10, .mv (.t 23)⟩])))))))
 (.seq (.reg [
    ⟨none, some 24, .mv (.t 5)⟩,
    ⟨none, some 25, .mkf n_impl_OrderCalls_1 [.t 2, .t 3]⟩,
    ⟨none, some 26, .call n_slices_SortStableFunc___int_int_ [.t 24, .t 25]⟩])
 (.seq (.reg [
    ⟨none, some 27, .mv (.t 5)⟩,
    ⟨none, some 4, .mv (.t 27)⟩])
 (.ret)))))
theorem h_impl_OrderCalls : Has Try.prog n_impl_OrderCalls 28 c_impl_OrderCalls [.t 4] := ⟨by decide, Try.f99, _, Try.func99, rfl, rfl, by kernel_rfl, by kernel_rfl⟩

def c_spec_l06Call : SC :=
 .seq (.reg [
    ⟨none, some 6, .alloc [.c (.b false), .nil 1, .c (.i 0), .c (.i 0)]⟩])
 (.seq (.reg [
    ⟨none, some 7, .mv (.t 0)⟩,
    ⟨none, some 8, .mv (.t 1)⟩,
    ⟨none, some 9, .call n_spec_l04Train [.t 7, .t 8]⟩,
    ⟨none, some 10, .mv (.t 2)⟩,
    ⟨none, some 11, .mv (.t 0)⟩,
    ⟨none, some 12, .bsl 1 [.k (.c (.i 0)), .k (.c (.i 5)), .k (.c (.i 19)), .k (.c (.i 20)), .k (.c (.i 45)), .k (.c (.i 70))]⟩,
    ⟨none, some 13, .call n_spec_l01PickInt [.t 11, .t 12]⟩,
    ⟨none, some 14, .bin .sub (.t 10) (.t 13)⟩,
    ⟨none, some 15, .mx [.k (.c (.i 0)), .t 14]⟩,
    ⟨none, some 16, .mv (.t 0)⟩,
    ⟨none, some 17, .mv (.t 2)⟩,
    ⟨none, some 18, .bin .sub (.t 17) (.k (.c (.i 3)))⟩,
    ⟨none, some 19, .mv (.t 2)⟩,
    ⟨none, some 20, .mv (.t 2)⟩,
    ⟨none, some 21, .bin .add (.t 20) (.k (.c (.i 5)))⟩,
    ⟨none, some 22, .bsl 1 [.k (.c (.i (-1))), .k (.c (.i (-1))), .k (.c (.i (-1))), .t 18, .t 19, .t 21]⟩,
    ⟨none, some 23, .call n_spec_l01PickInt [.t 16, .t 22]⟩,
    ⟨none, some 24, .bld [.c (.b false), .nil 1, .c (.i 0), .c (.i 0)] [(0, 2, .t 9), (2, 1, .t 15), (3, 1, .t 23)]⟩,
    ⟨none, none, .stn 4 (.t 6) (.t 24)⟩])
 (.ret))
theorem h_spec_l06Call : Has Try.prog n_spec_l06Call 25 c_spec_l06Call [.cl 6 4] := ⟨by decide, Try.f125, _, Try.func125, rfl, rfl, by kernel_rfl, by kernel_rfl⟩

def c_impl_ClassOf : SC :=
 .seq (.reg [
    ⟨none, some 1, .box 2 (.t 0)⟩,
    ⟨none, some 2, .mv (.k (.c (.i 0)))⟩])
 (.seq (.seq (.reg [
     ⟨none, some 6, .ldn 2 (.t 1)⟩,
     ⟨none, some 7, .call n_impl_TrainOk [.t 6]⟩,
     ⟨none, some 8, .not (.t 7)⟩])
  (.cond (.t 8)
   (.seq (.reg [
       ⟨none, some 2, .mv (.k (.c (.i (-1))))⟩])
    (.ret))
   (.skip)))
 (.seq (.reg [
    ⟨none, some 9, .fld 1 (.t 1)⟩,
    ⟨none, some 10, .ld1 (.t 9)⟩,
    ⟨none, some 11, .idx 1 (.t 10) (.k (.c (.i 0)))⟩,
    ⟨none, some 12, .ld1 (.t 11)⟩,
    ⟨none, some 13, .idx 6 (.t 12) (.k (.c (.i 0)))⟩,
    ⟨none, some 14, .fld 5 (.t 13)⟩,
    ⟨none, some 15, .ld1 (.t 14)⟩,
    ⟨none, some 3, .mv (.t 15)⟩])
 (.seq (.seq (.reg [
     ⟨none, some 16, .ldn 2 (.t 1)⟩,
     ⟨none, some 17, .call n_impl_boatsOf [.t 16]⟩,
     ⟨none, some 18, .len (.t 17)⟩,
     ⟨none, some 19, .mv (.k (.c (.i 0)))⟩])
  (.block 0 (.loop (.seq (.reg [
       ⟨none, some 20, .bin .lss (.t 19) (.t 18)⟩])
    (.seq (.cond (.t 20)
      (.skip)
      (.exit 0))
    (.seq (.block 1 (.seq (.reg [
         ⟨none, some 21, .idx 6 (.t 17) (.t 19)⟩,
         ⟨none, some 22, .ldn 6 (.t 21)⟩,
         ⟨none, some 5, .alloc [.c (.i 0), .c (.i 0), .c (.i 0), .c (.i 0), .c (.i 0), .c (.i 0)]⟩,
         ⟨none, none, .stn 6 (.t 5) (.t 22)⟩])
      (.reg [
        ⟨none, some 23, .mv (.t 3)⟩,
        ⟨none, some 24, .fld 5 (.t 5)⟩,
        ⟨none, some 25, .ld1 (.t 24)⟩,
        ⟨none, some 26, .mn [.t 23, .t 25]⟩,
        ⟨none, some 3, .mv (.t 26)⟩])))
    (.reg [
      ⟨none, some 27, .bin .add (.t 19) (.k (.c (.i 1)))⟩,
      ⟨none, some 19, .mv (.t 27)⟩])))))))
 (.seq (.reg [
    ⟨none, some 28, .mv (.t 3)⟩,
    ⟨none, some 2, .mv (.t 28)⟩])
 (.ret)))))
theorem h_impl_ClassOf : Has Try.prog n_impl_ClassOf 29 c_impl_ClassOf [.t 2] := ⟨by decide, Try.f150, _, Try.func150, rfl, rfl, by kernel_rfl, by kernel_rfl⟩

def c_spec_l04Train : SC :=
 .seq (.reg [
    ⟨none, some 4, .alloc [.c (.b false), .nil 1]⟩])
 (.seq (.reg [
    ⟨none, some 9, .mv (.t 0)⟩,
    ⟨none, some 10, .call n_spec_l01Once [.t 9, .k (.c (.i 2))]⟩,
    ⟨none, some 11, .bld [.c (.b false), .nil 1] [(0, 1, .t 10)]⟩,
    ⟨none, some 5, .alloc [.c (.b false), .nil 1]⟩,
    ⟨none, none, .stn 2 (.t 5) (.t 11)⟩])
 (.seq (.reg [
    ⟨none, some 12, .mv (.t 0)⟩,
    ⟨none, some 13, .call n_spec_l01Below [.t 12, .k (.c (.i 4))]⟩,
    ⟨none, some 14, .bin .add (.k (.c (.i 1))) (.t 13)⟩,
    ⟨none, some 6, .mv (.t 14)⟩])
 (.seq (.seq (.reg [
     ⟨none, some 7, .mv (.k (.c (.i 0)))⟩])
  (.block 0 (.loop (.seq (.seq (.reg [
        ⟨none, some 15, .mv (.t 7)⟩,
        ⟨none, some 16, .mv (.t 6)⟩,
        ⟨none, some 17, .bin .lss (.t 15) (.t 16)⟩])
     (.cond (.t 17)
      (.skip)
      (.exit 0)))
    (.seq (.block 1 (.seq (.reg [
         ⟨none, some 20, .mv (.t 0)⟩,
         ⟨none, some 21, .mv (.t 1)⟩,
         ⟨none, some 22, .mv (.t 7)⟩,
         ⟨none, some 23, .bin .add (.t 21) (.t 22)⟩,
         ⟨none, some 24, .call n_spec_l04Boat [.t 20, .t 23]⟩,
         ⟨none, some 8, .alloc [.c (.i 0), .c (.i 0), .c (.i 0), .c (.i 0), .c (.i 0), .c (.i 0)]⟩,
         ⟨none, none, .stn 6 (.t 8) (.t 24)⟩])
      (.seq (.reg [
         ⟨none, some 25, .mv (.t 7)⟩,
         ⟨none, some 26, .bin .gtr (.t 25) (.k (.c (.i 0)))⟩,
         ⟨none, some 27, .mv (.t 26)⟩,
         ⟨some (27, true), some 28, .mv (.t 0)⟩,
         ⟨some (27, true), some 29, .call n_spec_l01Once [.t 28, .k (.c (.i 2))]⟩,
         ⟨none, some 30, .pick (.t 27) (.t 29) (.k (.c (.b false)))⟩])
      (.cond (.t 30)
       (.rege [
          ⟨0, true, [], ⟨none, some 31, .fld 1 (.t 5)⟩⟩,
          ⟨0, true, [], ⟨none, some 32, .ld1 (.t 31)⟩⟩,
          ⟨0, true, [], ⟨none, some 33, .fld 1 (.t 5)⟩⟩,
          ⟨0, true, [], ⟨none, some 34, .ld1 (.t 33)⟩⟩,
          ⟨0, true, [], ⟨none, some 35, .len (.t 34)⟩⟩,
          ⟨0, true, [], ⟨none, some 36, .bin .sub (.t 35) (.k (.c (.i 1)))⟩⟩,
          ⟨0, false, [], ⟨none, some 37, .fld 1 (.t 5)⟩⟩,
          ⟨0, false, [], ⟨none, some 38, .ld1 (.t 37)⟩⟩,
          ⟨0, false, [], ⟨none, some 39, .fld 1 (.t 5)⟩⟩,
          ⟨0, false, [], ⟨none, some 40, .ld1 (.t 39)⟩⟩,
          ⟨0, false, [], ⟨none, some 41, .len (.t 40)⟩⟩,
          ⟨0, false, [], ⟨none, some 42, .bin .sub (.t 41) (.k (.c (.i 1)))⟩⟩,
          ⟨0, false, [], ⟨none, some 43, .idx 1 (.t 38) (.t 42)⟩⟩,
          ⟨0, false, [], ⟨none, some 44, .ld1 (.t 43)⟩⟩,
          ⟨0, false, [], ⟨none, some 45, .ldn 6 (.t 8)⟩⟩,
          ⟨1, false, [], ⟨none, some 46, .bsl 6 [.t 45]⟩⟩,
          ⟨2, false, [0, 1, 2, 3, 4, 5], ⟨none, some 47, .app 6 48 (.t 44) (.t 46)⟩⟩,
          ⟨0, false, [], ⟨none, some 48, .idx 1 (.t 32) (.t 36)⟩⟩,
          ⟨2, false, [], ⟨none, none, .st1 (.t 48) (.t 47)⟩⟩])
       (.reg [
          ⟨none, some 49, .fld 1 (.t 5)⟩,
          ⟨none, some 50, .ld1 (.t 49)⟩,
          ⟨none, some 51, .ldn 6 (.t 8)⟩,
          ⟨none, some 52, .bsl 6 [.t 51]⟩,
          ⟨none, some 53, .bsl 1 [.t 52]⟩,
          ⟨none, some 54, .app 1 24 (.t 50) (.t 53)⟩,
          ⟨none, some 55, .fld 1 (.t 5)⟩,
          ⟨none, none, .st1 (.t 55) (.t 54)⟩])))))
    (.reg [
      ⟨none, some 18, .mv (.t 7)⟩,
      ⟨none, some 19, .bin .add (.t 18) (.k (.c (.i 1)))⟩,
      ⟨none, some 7, .mv (.t 19)⟩]))))))
 (.seq (.reg [
    ⟨none, some 56, .ldn 2 (.t 5)⟩,
    ⟨none, none, .stn 2 (.t 4) (.t 56)⟩])
 (.ret)))))
theorem h_spec_l04Train : Has Try.prog n_spec_l04Train 57 c_spec_l04Train [.cl 4 2] := ⟨by decide, Try.f151, _, Try.func151, rfl, rfl, by kernel_rfl, by kernel_rfl⟩

def c_impl_IdsOf : SC :=
 .seq (.reg [
    ⟨none, some 1, .box 2 (.t 0)⟩,
    ⟨none, some 2, .mv (.k (.nil 1))⟩])
 (.seq (.seq (.reg [
     ⟨none, some 6, .ldn 2 (.t 1)⟩,
     ⟨none, some 7, .call n_impl_TrainOk [.t 6]⟩,
     ⟨none, some 8, .not (.t 7)⟩])
  (.cond (.t 8)
   (.seq (.reg [
       ⟨none, some 2, .mv (.k (.nil 1))⟩])
    (.ret))
   (.skip)))
 (.seq (.reg [
    ⟨none, some 3, .mv (.k (.nil 1))⟩])
 (.seq (.seq (.reg [
     ⟨none, some 9, .ldn 2 (.t 1)⟩,
     ⟨none, some 10, .call n_impl_boatsOf [.t 9]⟩,
     ⟨none, some 11, .len (.t 10)⟩,
     ⟨none, some 12, .mv (.k (.c (.i 0)))⟩])
  (.block 0 (.loop (.seq (.reg [
       ⟨none, some 13, .bin .lss (.t 12) (.t 11)⟩])
    (.seq (.cond (.t 13)
      (.skip)
      (.exit 0))
    (.seq (.block 1 (.seq (.reg [
         ⟨none, some 14, .idx 6 (.t 10) (.t 12)⟩,
         ⟨none, some 15, .ldn 6 (.t 14)⟩,
         ⟨none, some 5, .alloc [.c (.i 0), .c (.i 0), .c (.i 0), .c (.i 0), .c (.i 0), .c (.i 0)]⟩,
         ⟨none, none, .stn 6 (.t 5) (.t 15)⟩])
      (.reg [
        ⟨none, some 16, .mv (.t 3)⟩,
        ⟨none, some 17, .fld 0 (.t 5)⟩,
        ⟨none, some 18, .ld1 (.t 17)⟩,
        ⟨none, some 19, .bsl 1 [.t 18]⟩,
        ⟨none, some 20, .app 1 8 (.t 16) (.t 19)⟩,
        ⟨none, some 3, .mv (.t 20)⟩])))
    (.reg [
      ⟨none, some 21, .bin .add (.t 12) (.k (.c (.i 1)))⟩,
      ⟨none, some 12, .mv (.t 21)⟩])))))))
 (.seq (.reg [
    ⟨none, some 22, .mv (.t 3)⟩,
    ⟨none, some 2, .mv (.t 22)⟩])
 (.ret)))))
theorem h_impl_IdsOf : Has Try.prog n_impl_IdsOf 23 c_impl_IdsOf [.t 2] := ⟨by decide, Try.f155, _, Try.func155, rfl, rfl, by kernel_rfl, by kernel_rfl⟩

def c_impl_RankOf : SC :=
 .seq (.reg [
    ⟨none, some 2, .box 4 (.t 0)⟩,
    ⟨none, some 4, .mv (.k (.c (.i 0)))⟩])
 (.seq (.seq (.reg [
     ⟨none, some 5, .ldn 4 (.t 2)⟩,
     ⟨none, some 6, .call n_impl_CallOk [.t 5]⟩,
     ⟨none, some 7, .not (.t 6)⟩,
     ⟨none, some 8, .mv (.t 7)⟩,
     ⟨some (8, false), some 9, .mv (.t 1)⟩,
     ⟨some (8, false), some 10, .fld 2 (.t 2)⟩,
     ⟨some (8, false), some 11, .ld1 (.t 10)⟩,
     ⟨some (8, false), some 12, .call n_impl_inRange [.t 9, .t 11, .k (.c (.i 1000000))]⟩,
     ⟨some (8, false), some 13, .not (.t 12)⟩,
     ⟨none, some 14, .pick (.t 8) (.k (.c (.b true))) (.t 13)⟩])
  (.cond (.t 14)
   (.seq (.reg [
       ⟨none, some 4, .mv (.k (.c (.i 3)))⟩])
    (.ret))
   (.skip)))
 (.seq (.seq (.reg [
     ⟨none, some 15, .fld 3 (.t 2)⟩,
     ⟨none, some 16, .ld1 (.t 15)⟩,
     ⟨none, some 17, .bin .neq (.t 16) (.k (.c (.i (-1))))⟩,
     ⟨none, some 18, .mv (.t 17)⟩,
     ⟨some (18, true), some 19, .fld 3 (.t 2)⟩,
     ⟨some (18, true), some 20, .ld1 (.t 19)⟩,
     ⟨some (18, true), some 21, .mv (.t 1)⟩,
     ⟨some (18, true), some 22, .bin .leq (.t 20) (.t 21)⟩,
     ⟨none, some 23, .pick (.t 18) (.t 22) (.k (.c (.b false)))⟩])
  (.cond (.t 23)
   (.seq (.reg [
       ⟨none, some 4, .mv (.k (.c (.i (-1))))⟩])
    (.ret))
   (.skip)))
 (.seq (.regq [
    ⟨none, some 24, .fld 0 (.t 2)⟩,
    ⟨none, some 25, .ldn 2 (.t 24)⟩,
    ⟨none, some 26, .call n_impl_ClassOf [.t 25]⟩,
    ⟨none, some 27, .mv (.t 1)⟩,
    ⟨none, some 28, .fld 2 (.t 2)⟩,
    ⟨none, some 29, .ld1 (.t 28)⟩,
    ⟨none, some 30, .bin .sub (.t 27) (.t 29)⟩,
    ⟨none, some 31, .bin .quo (.t 30) (.k (.c (.i 20)))⟩,
    ⟨none, some 32, .bin .sub (.t 26) (.t 31)⟩,
    ⟨none, some 33, .mx [.k (.c (.i 0)), .t 32]⟩,
    ⟨none, some 4, .mv (.t 33)⟩])
 (.ret))))
theorem h_impl_RankOf : Has Try.prog n_impl_RankOf 34 c_impl_RankOf [.t 4] := ⟨by decide, Try.f166, _, Try.func166, rfl, rfl, by kernel_rfl, by kernel_rfl⟩

def c_slices_SortStableFunc___int_int_ : SC :=
 .reg [
   ⟨none, some 4, .mv (.t 0)⟩,
   ⟨none, some 5, .mv (.t 0)⟩,
   ⟨none, some 6, .len (.t 5)⟩,
   ⟨none, some 7, .mv (.t 1)⟩,
   ⟨none, some 8, .call n_slices_stableCmpFunc_int_ [.t 4, .t 6, .t 7]⟩]
theorem h_slices_SortStableFunc___int_int_ : Has Try.prog n_slices_SortStableFunc___int_int_ 9 c_slices_SortStableFunc___int_int_ [] := ⟨by decide, Try.f167, _, Try.func167, rfl, rfl, by kernel_rfl, by kernel_rfl⟩

def c_impl_OrderCalls_1 : SC :=
 .seq (.reg [
    ⟨none, some 6, .mv (.k (.c (.i 0)))⟩])
 (.seq (.seq (.regq [
     ⟨none, some 7, .ld1 (.t 2)⟩,
     ⟨none, some 8, .mv (.t 0)⟩,
     ⟨none, some 9, .idx 4 (.t 7) (.t 8)⟩,
     ⟨none, some 10, .ldn 4 (.t 9)⟩,
     ⟨none, some 11, .ld1 (.t 2)⟩,
     ⟨none, some 12, .mv (.t 1)⟩,
     ⟨none, some 13, .idx 4 (.t 11) (.t 12)⟩,
     ⟨none, some 14, .ldn 4 (.t 13)⟩,
     ⟨none, some 15, .ld1 (.t 3)⟩,
     ⟨none, some 16, .call n_impl_ComesBefore [.t 10, .t 14, .t 15]⟩])
  (.cond (.t 16)
   (.seq (.reg [
       ⟨none, some 6, .mv (.k (.c (.i (-1))))⟩])
    (.ret))
   (.skip)))
 (.seq (.seq (.regq [
     ⟨none, some 17, .ld1 (.t 2)⟩,
     ⟨none, some 18, .mv (.t 1)⟩,
     ⟨none, some 19, .idx 4 (.t 17) (.t 18)⟩,
     ⟨none, some 20, .ldn 4 (.t 19)⟩,
     ⟨none, some 21, .ld1 (.t 2)⟩,
     ⟨none, some 22, .mv (.t 0)⟩,
     ⟨none, some 23, .idx 4 (.t 21) (.t 22)⟩,
     ⟨none, some 24, .ldn 4 (.t 23)⟩,
     ⟨none, some 25, .ld1 (.t 3)⟩,
     ⟨none, some 26, .call n_impl_ComesBefore [.t 20, .t 24, .t 25]⟩])
  (.cond (.t 26)
   (.seq (.reg [
       ⟨none, some 6, .mv (.k (.c (.i 1)))⟩])
    (.ret))
   (.skip)))
 (.seq (.reg [
    ⟨none, some 6, .mv (.k (.c (.i 0)))⟩])
 (.ret))))
theorem h_impl_OrderCalls_1 : Has Try.prog n_impl_OrderCalls_1 27 c_impl_OrderCalls_1 [.t 6] := ⟨by decide, Try.f168, _, Try.func168, rfl, rfl, by kernel_rfl, by kernel_rfl⟩

def c_impl_ComesBefore : SC :=
 .seq (.reg [
    ⟨none, some 3, .box 4 (.t 0)⟩,
    ⟨none, some 4, .box 4 (.t 1)⟩,
    ⟨none, some 6, .mv (.k (.c (.b false)))⟩])
 (.seq (.regq [
    ⟨none, some 9, .ldn 4 (.t 3)⟩,
    ⟨none, some 10, .mv (.t 2)⟩,
    ⟨none, some 11, .call n_impl_RankOf [.t 9, .t 10]⟩,
    ⟨none, some 12, .ldn 4 (.t 4)⟩,
    ⟨none, some 13, .mv (.t 2)⟩,
    ⟨none, some 14, .call n_impl_RankOf [.t 12, .t 13]⟩,
    ⟨none, some 7, .mv (.t 11)⟩,
    ⟨none, some 8, .mv (.t 14)⟩])
 (.seq (.seq (.reg [
     ⟨none, some 15, .mv (.t 7)⟩,
     ⟨none, some 16, .bin .eql (.t 15) (.k (.c (.i 3)))⟩,
     ⟨none, some 17, .mv (.t 16)⟩,
     ⟨some (17, false), some 18, .mv (.t 8)⟩,
     ⟨some (17, false), some 19, .bin .eql (.t 18) (.k (.c (.i 3)))⟩,
     ⟨none, some 20, .pick (.t 17) (.k (.c (.b true))) (.t 19)⟩])
  (.cond (.t 20)
   (.seq (.reg [
       ⟨none, some 6, .mv (.k (.c (.b false)))⟩])
    (.ret))
   (.skip)))
 (.seq (.seq (.reg [
     ⟨none, some 21, .mv (.t 7)⟩,
     ⟨none, some 22, .mv (.t 8)⟩,
     ⟨none, some 23, .bin .neq (.t 21) (.t 22)⟩])
  (.cond (.t 23)
   (.seq (.reg [
       ⟨none, some 24, .mv (.t 7)⟩,
       ⟨none, some 25, .mv (.t 8)⟩,
       ⟨none, some 26, .bin .lss (.t 24) (.t 25)⟩,
       ⟨none, some 6, .mv (.t 26)⟩])
    (.ret))
   (.skip)))
 (.seq (.seq (.reg [
     ⟨none, some 27, .mv (.t 7)⟩,
     ⟨none, some 28, .bin .eql (.t 27) (.k (.c (.i (-1))))⟩,
     ⟨none, some 29, .mv (.t 28)⟩,
     ⟨some (29, true), some 30, .fld 3 (.t 3)⟩,
     ⟨some (29, true), some 31, .ld1 (.t 30)⟩,
     ⟨some (29, true), some 32, .fld 3 (.t 4)⟩,
     ⟨some (29, true), some 33, .ld1 (.t 32)⟩,
     ⟨some (29, true), some 34, .bin .neq (.t 31) (.t 33)⟩,
     ⟨none, some 35, .pick (.t 29) (.t 34) (.k (.c (.b false)))⟩])
  (.cond (.t 35)
   (.seq (.reg [
       ⟨none, some 36, .fld 3 (.t 3)⟩,
       ⟨none, some 37, .ld1 (.t 36)⟩,
       ⟨none, some 38, .fld 3 (.t 4)⟩,
       ⟨none, some 39, .ld1 (.t 38)⟩,
       ⟨none, some 40, .bin .lss (.t 37) (.t 39)⟩,
       ⟨none, some 6, .mv (.t 40)⟩])
    (.ret))
   (.skip)))
 (.seq (.seq (.reg [
     ⟨none, some 41, .fld 2 (.t 3)⟩,
     ⟨none, some 42, .ld1 (.t 41)⟩,
     ⟨none, some 43, .fld 2 (.t 4)⟩,
     ⟨none, some 44, .ld1 (.t 43)⟩,
     ⟨none, some 45, .bin .neq (.t 42) (.t 44)⟩])
  (.cond (.t 45)
   (.seq (.reg [
       ⟨none, some 46, .fld 2 (.t 3)⟩,
       ⟨none, some 47, .ld1 (.t 46)⟩,
       ⟨none, some 48, .fld 2 (.t 4)⟩,
       ⟨none, some 49, .ld1 (.t 48)⟩,
       ⟨none, some 50, .bin .lss (.t 47) (.t 49)⟩,
       ⟨none, some 6, .mv (.t 50)⟩])
    (.ret))
   (.skip)))
 (.seq (.regq [
    ⟨none, some 51, .fld 0 (.t 3)⟩,
    ⟨none, some 52, .ldn 2 (.t 51)⟩,
    ⟨none, some 53, .call n_impl_IdsOf [.t 52]⟩,
    ⟨none, some 54, .idx 1 (.t 53) (.k (.c (.i 0)))⟩,
    ⟨none, some 55, .ld1 (.t 54)⟩,
    ⟨none, some 56, .fld 0 (.t 4)⟩,
    ⟨none, some 57, .ldn 2 (.t 56)⟩,
    ⟨none, some 58, .call n_impl_IdsOf [.t 57]⟩,
    ⟨none, some 59, .idx 1 (.t 58) (.k (.c (.i 0)))⟩,
    ⟨none, some 60, .ld1 (.t 59)⟩,
    ⟨none, some 61, .bin .lss (.t 55) (.t 60)⟩,
    ⟨none, some 6, .mv (.t 61)⟩])
 (.ret)))))))
theorem h_impl_ComesBefore : Has Try.prog n_impl_ComesBefore 62 c_impl_ComesBefore [.t 6] := ⟨by decide, Try.f169, _, Try.func169, rfl, rfl, by kernel_rfl, by kernel_rfl⟩

def c_impl_CallOk : SC :=
 .seq (.reg [
    ⟨none, some 1, .box 4 (.t 0)⟩,
    ⟨none, some 2, .mv (.k (.c (.b false)))⟩])
 (.seq (.reg [
    ⟨none, some 3, .fld 0 (.t 1)⟩,
    ⟨none, some 4, .ldn 2 (.t 3)⟩,
    ⟨none, some 5, .call n_impl_TrainOk [.t 4]⟩,
    ⟨none, some 6, .mv (.t 5)⟩,
    ⟨some (6, true), some 7, .fld 2 (.t 1)⟩,
    ⟨some (6, true), some 8, .ld1 (.t 7)⟩,
    ⟨some (6, true), some 9, .call n_impl_inRange [.t 8, .k (.c (.i 0)), .k (.c (.i 1000000))]⟩,
    ⟨none, some 10, .pick (.t 6) (.t 9) (.k (.c (.b false)))⟩,
    ⟨none, some 11, .mv (.t 10)⟩,
    ⟨some (11, true), some 12, .fld 3 (.t 1)⟩,
    ⟨some (11, true), some 13, .ld1 (.t 12)⟩,
    ⟨some (11, true), some 14, .call n_impl_inRange [.t 13, .k (.c (.i (-1))), .k (.c (.i 1000000))]⟩,
    ⟨none, some 15, .pick (.t 11) (.t 14) (.k (.c (.b false)))⟩,
    ⟨none, some 2, .mv (.t 15)⟩])
 (.ret))
theorem h_impl_CallOk : Has Try.prog n_impl_CallOk 16 c_impl_CallOk [.t 2] := ⟨by decide, Try.f186, _, Try.func186, rfl, rfl, by kernel_rfl, by kernel_rfl⟩

def c_spec_l01PickInt : SC :=
 .seq (.reg [
    ⟨none, some 4, .mv (.k (.c (.i 0)))⟩])
 (.seq (.reg [
    ⟨none, some 5, .mv (.t 1)⟩,
    ⟨none, some 6, .mv (.t 0)⟩,
    ⟨none, some 7, .mv (.t 1)⟩,
    ⟨none, some 8, .len (.t 7)⟩,
    ⟨none, some 9, .call n_spec_l01Below [.t 6, .t 8]⟩,
    ⟨none, some 10, .idx 1 (.t 5) (.t 9)⟩,
    ⟨none, some 11, .ld1 (.t 10)⟩,
    ⟨none, some 4, .mv (.t 11)⟩])
 (.ret))
theorem h_spec_l01PickInt : Has Try.prog n_spec_l01PickInt 12 c_spec_l01PickInt [.t 4] := ⟨by decide, Try.f197, _, Try.func197, rfl, rfl, by kernel_rfl, by kernel_rfl⟩

def c_spec_l01Once : SC :=
 .seq (.reg [
    ⟨none, some 4, .mv (.k (.c (.b false)))⟩])
 (.seq (.reg [
    ⟨none, some 5, .mv (.t 0)⟩,
    ⟨none, some 6, .mv (.t 1)⟩,
    ⟨none, some 7, .call n_spec_l01Below [.t 5, .t 6]⟩,
    ⟨none, some 8, .bin .eql (.t 7) (.k (.c (.i 0)))⟩,
    ⟨none, some 4, .mv (.t 8)⟩])
 (.ret))
theorem h_spec_l01Once : Has Try.prog n_spec_l01Once 9 c_spec_l01Once [.t 4] := ⟨by decide, Try.f214, _, Try.func214, rfl, rfl, by kernel_rfl, by kernel_rfl⟩

def c_spec_l04Boat : SC :=
 .seq (.reg [
    ⟨none, some 4, .alloc [.c (.i 0), .c (.i 0), .c (.i 0), .c (.i 0), .c (.i 0), .c (.i 0)]⟩])
 (.seq (.reg [
    ⟨none, some 5, .mv (.t 1)⟩,
    ⟨none, some 6, .mv (.t 0)⟩,
    ⟨none, some 7, .bsl 1 [.k (.c (.i 5)), .k (.c (.i 12)), .k (.c (.i 30)), .k (.c (.i 80))]⟩,
    ⟨none, some 8, .call n_spec_l01PickInt [.t 6, .t 7]⟩,
    ⟨none, some 9, .mv (.t 0)⟩,
    ⟨none, some 10, .call n_spec_l01Below [.t 9, .k (.c (.i 9))]⟩,
    ⟨none, some 11, .bin .add (.k (.c (.i 1))) (.t 10)⟩,
    ⟨none, some 12, .mv (.t 0)⟩,
    ⟨none, some 13, .call n_spec_l01Below [.t 12, .k (.c (.i 30))]⟩,
    ⟨none, some 14, .bin .add (.k (.c (.i 1))) (.t 13)⟩,
    ⟨none, some 15, .mv (.t 0)⟩,
    ⟨none, some 16, .call n_spec_l01Below [.t 15, .k (.c (.i 12))]⟩,
    ⟨none, some 17, .bin .add (.k (.c (.i 1))) (.t 16)⟩,
    ⟨none, some 18, .mv (.t 0)⟩,
    ⟨none, some 19, .call n_spec_l01Below [.t 18, .k (.c (.i 3))]⟩,
    ⟨none, some 20, .bld [.c (.i 0), .c (.i 0), .c (.i 0), .c (.i 0), .c (.i 0), .c (.i 0)] [(0, 1, .t 5), (1, 1, .t 8), (2, 1, .t 11), (3, 1, .t 14), (4, 1, .t 17), (5, 1, .t 19)]⟩,
    ⟨none, none, .stn 6 (.t 4) (.t 20)⟩])
 (.ret))
theorem h_spec_l04Boat : Has Try.prog n_spec_l04Boat 21 c_spec_l04Boat [.cl 4 6] := ⟨by decide, Try.f215, _, Try.func215, rfl, rfl, by kernel_rfl, by kernel_rfl⟩

def c_slices_stableCmpFunc_int_ : SC :=
 .seq (.reg [
    ⟨none, some 6, .mv (.k (.c (.i 20)))⟩])
 (.seq (.reg [
    ⟨none, some 10, .mv (.t 6)⟩,
    ⟨none, some 7, .mv (.k (.c (.i 0)))⟩,
    ⟨none, some 8, .mv (.t 10)⟩])
 (.seq (.block 0 (.loop (.seq (.seq (.reg [
        ⟨none, some 11, .mv (.t 8)⟩,
        ⟨none, some 12, .mv (.t 1)⟩,
        ⟨none, some 13, .bin .leq (.t 11) (.t 12)⟩])
     (.cond (.t 13)
      (.skip)
      (.exit 0)))
    (.block 1 (.seq (.reg [
        ⟨none, some 14, .mv (.t 0)⟩,
        ⟨none, some 15, .mv (.t 7)⟩,
        ⟨none, some 16, .mv (.t 8)⟩,
        ⟨none, some 17, .mv (.t 2)⟩,
        ⟨none, some 18, .call n_slices_insertionSortCmpFunc_int_ [.t 14, .t 15, .t 16, .t 17]⟩])
     (.seq (.reg [
        ⟨none, some 19, .mv (.t 8)⟩,
        ⟨none, some 7, .mv (.t 19)⟩])
     (.reg [
       ⟨none, some 20, .mv (.t 8)⟩,
       ⟨none, some 21, .mv (.t 6)⟩,
       ⟨none, some 22, .bin .add (.t 20) (.t 21)⟩,
       ⟨none, some 8, .mv (.t 22)⟩])))))))
 (.seq (.reg [
    ⟨none, some 23, .mv (.t 0)⟩,
    ⟨none, some 24, .mv (.t 7)⟩,
    ⟨none, some 25, .mv (.t 1)⟩,
    ⟨none, some 26, .mv (.t 2)⟩,
    ⟨none, some 27, .call n_slices_insertionSortCmpFunc_int_ [.t 23, .t 24, .t 25, .t 26]⟩])
 (.block 2 (.loop (.seq (.seq (.reg [
       ⟨none, some 28, .mv (.t 6)⟩,
       ⟨none, some 29, .mv (.t 1)⟩,
       ⟨none, some 30, .bin .lss (.t 28) (.t 29)⟩])
    (.cond (.t 30)
     (.skip)
     (.exit 2)))
   (.block 3 (.seq (.reg [
       ⟨none, some 31, .mv (.t 6)⟩,
       ⟨none, some 32, .bin .mul (.k (.c (.i 2))) (.t 31)⟩,
       ⟨none, some 7, .mv (.k (.c (.i 0)))⟩,
       ⟨none, some 8, .mv (.t 32)⟩])
    (.seq (.block 4 (.loop (.seq (.seq (.reg [
           ⟨none, some 33, .mv (.t 8)⟩,
           ⟨none, some 34, .mv (.t 1)⟩,
           ⟨none, some 35, .bin .leq (.t 33) (.t 34)⟩])
        (.cond (.t 35)
         (.skip)
         (.exit 4)))
       (.block 5 (.seq (.reg [
           ⟨none, some 36, .mv (.t 0)⟩,
           ⟨none, some 37, .mv (.t 7)⟩,
           ⟨none, some 38, .mv (.t 7)⟩,
           ⟨none, some 39, .mv (.t 6)⟩,
           ⟨none, some 40, .bin .add (.t 38) (.t 39)⟩,
           ⟨none, some 41, .mv (.t 8)⟩,
           ⟨none, some 42, .mv (.t 2)⟩,
           ⟨none, some 43, .call n_slices_symMergeCmpFunc_int_ [.t 36, .t 37, .t 40, .t 41, .t 42]⟩])
        (.seq (.reg [
           ⟨none, some 44, .mv (.t 8)⟩,
           ⟨none, some 7, .mv (.t 44)⟩])
        (.reg [
          ⟨none, some 45, .mv (.t 8)⟩,
          ⟨none, some 46, .mv (.t 6)⟩,
          ⟨none, some 47, .bin .mul (.k (.c (.i 2))) (.t 46)⟩,
          ⟨none, some 48, .bin .add (.t 45) (.t 47)⟩,
          ⟨none, some 8, .mv (.t 48)⟩])))))))
    (.seq (.seq (.reg [
        ⟨none, some 49, .mv (.t 7)⟩,
        ⟨none, some 50, .mv (.t 6)⟩,
        ⟨none, some 51, .bin .add (.t 49) (.t 50)⟩,
        ⟨none, some 9, .mv (.t 51)⟩])
     (.seq (.reg [
        ⟨none, some 52, .mv (.t 9)⟩,
        ⟨none, some 53, .mv (.t 1)⟩,
        ⟨none, some 54, .bin .lss (.t 52) (.t 53)⟩])
     (.cond (.t 54)
      (.reg [
         ⟨none, some 55, .mv (.t 0)⟩,
         ⟨none, some 56, .mv (.t 7)⟩,
         ⟨none, some 57, .mv (.t 9)⟩,
         ⟨none, some 58, .mv (.t 1)⟩,
         ⟨none, some 59, .mv (.t 2)⟩,
         ⟨none, some 60, .call n_slices_symMergeCmpFunc_int_ [.t 55, .t 56, .t 57, .t 58, .t 59]⟩])
      (.skip))))
    (.reg [
      ⟨none, some 61, .mv (.t 6)⟩,
      ⟨none, some 62, .bin .mul (.t 61) (.k (.c (.i 2)))⟩,
      ⟨none, some 6, .mv (.t 62)⟩])))))))))))
theorem h_slices_stableCmpFunc_int_ : Has Try.prog n_slices_stableCmpFunc_int_ 63 c_slices_stableCmpFunc_int_ [] := ⟨by decide, Try.f218, _, Try.func218, rfl, rfl, by kernel_rfl, by kernel_rfl⟩

def c_slices_insertionSortCmpFunc_int_ : SC :=
 .seq (.reg [
    ⟨none, some 10, .mv (.t 1)⟩,
    ⟨none, some 11, .bin .add (.t 10) (.k (.c (.i 1)))⟩,
    ⟨none, some 8, .mv (.t 11)⟩])
 (.block 0 (.loop (.seq (.seq (.reg [
       ⟨none, some 12, .mv (.t 8)⟩,
       ⟨none, some 13, .mv (.t 2)⟩,
       ⟨none, some 14, .bin .lss (.t 12) (.t 13)⟩])
    (.cond (.t 14)
     (.skip)
     (.exit 0)))
   (.seq (.block 1 (.seq (.reg [
        ⟨none, some 17, .mv (.t 8)⟩,
        ⟨none, some 9, .mv (.t 17)⟩])
     (.block 2 (.loop (.seq (.seq (.regq [
           ⟨none, some 18, .mv (.t 9)⟩,
           ⟨none, some 19, .mv (.t 1)⟩,
           ⟨none, some 20, .bin .gtr (.t 18) (.t 19)⟩,
           ⟨none, some 21, .mv (.t 20)⟩,
           ⟨some (21, true), some 22, .mv (.t 3)⟩,
           ⟨some (21, true), some 23, .mv (.t 0)⟩,
           ⟨some (21, true), some 24, .mv (.t 9)⟩,
           ⟨some (21, true), some 25, .idx 1 (.t 23) (.t 24)⟩,
           ⟨some (21, true), some 26, .ld1 (.t 25)⟩,
           ⟨some (21, true), some 27, .mv (.t 0)⟩,
           ⟨some (21, true), some 28, .mv (.t 9)⟩,
           ⟨some (21, true), some 29, .bin .sub (.t 28) (.k (.c (.i 1)))⟩,
           ⟨some (21, true), some 30, .idx 1 (.t 27) (.t 29)⟩,
           ⟨some (21, true), some 31, .ld1 (.t 30)⟩,
           ⟨some (21, true), some 32, .callv (.t 22) [.t 26, .t 31]⟩,
           ⟨some (21, true), some 33, .bin .lss (.t 32) (.k (.c (.i 0)))⟩,
           ⟨none, some 34, .pick (.t 21) (.t 33) (.k (.c (.b false)))⟩])
        (.cond (.t 34)
         (.skip)
         (.exit 2)))
       (.seq (.block 3 (.rege [
           ⟨0, false, [], ⟨none, some 37, .mv (.t 0)⟩⟩,
           ⟨0, false, [], ⟨none, some 38, .mv (.t 9)⟩⟩,
           ⟨0, true, [], ⟨none, some 39, .mv (.t 0)⟩⟩,
           ⟨0, true, [], ⟨none, some 40, .mv (.t 9)⟩⟩,
           ⟨0, true, [], ⟨none, some 41, .bin .sub (.t 40) (.k (.c (.i 1)))⟩⟩,
           ⟨0, false, [], ⟨none, some 42, .mv (.t 0)⟩⟩,
           ⟨0, false, [], ⟨none, some 43, .mv (.t 9)⟩⟩,
           ⟨0, false, [], ⟨none, some 44, .bin .sub (.t 43) (.k (.c (.i 1)))⟩⟩,
           ⟨0, false, [], ⟨none, some 45, .idx 1 (.t 42) (.t 44)⟩⟩,
           ⟨0, false, [], ⟨none, some 46, .ld1 (.t 45)⟩⟩,
           ⟨0, false, [], ⟨none, some 47, .mv (.t 0)⟩⟩,
           ⟨0, false, [], ⟨none, some 48, .mv (.t 9)⟩⟩,
           ⟨0, false, [], ⟨none, some 49, .idx 1 (.t 47) (.t 48)⟩⟩,
           ⟨0, false, [], ⟨none, some 50, .ld1 (.t 49)⟩⟩,
           ⟨0, false, [], ⟨none, some 51, .idx 1 (.t 37) (.t 38)⟩⟩,
           ⟨2, false, [2, 3, 4], ⟨none, none, .st1 (.t 51) (.t 46)⟩⟩,
           ⟨0, false, [], ⟨none, some 52, .idx 1 (.t 39) (.t 41)⟩⟩,
           ⟨2, false, [], ⟨none, none, .st1 (.t 52) (.t 50)⟩⟩]))
       (.reg [
         ⟨none, some 35, .mv (.t 9)⟩,
         ⟨none, some 36, .bin .sub (.t 35) (.k (.c (.i 1)))⟩,
         ⟨none, some 9, .mv (.t 36)⟩])))))))
   (.reg [
     ⟨none, some 15, .mv (.t 8)⟩,
     ⟨none, some 16, .bin .add (.t 15) (.k (.c (.i 1)))⟩,
     ⟨none, some 8, .mv (.t 16)⟩])))))
theorem h_slices_insertionSortCmpFunc_int_ : Has Try.prog n_slices_insertionSortCmpFunc_int_ 53 c_slices_insertionSortCmpFunc_int_ [] := ⟨by decide, Try.f234, _, Try.func234, rfl, rfl, by kernel_rfl, by kernel_rfl⟩



def c_laws_FnExactTollOf : SC :=
 .seq (.reg [
    ⟨none, some 2, .box 4 (.t 0)⟩,
    ⟨none, some 3, .box 2 (.t 1)⟩,
    ⟨none, some 4, .mv (.k (.c (.b false)))⟩])
 (.seq (.reg [
    ⟨none, some 5, .mv (.k (.c (.i 1048576)))⟩])
 (.seq (.reg [
    ⟨none, some 10, .ldn 4 (.t 2)⟩,
    ⟨none, some 11, .mv (.t 5)⟩,
    ⟨none, some 12, .call n_laws_szTariff [.t 10, .t 11]⟩,
    ⟨none, some 5, .mv (.t 12)⟩])
 (.seq (.seq (.reg [
     ⟨none, some 13, .mv (.t 5)⟩,
     ⟨none, some 14, .bin .lss (.t 13) (.k (.c (.i 0)))⟩])
  (.cond (.t 14)
   (.seq (.reg [
       ⟨none, some 4, .mv (.k (.c (.b true)))⟩])
    (.ret))
   (.skip)))
 (.seq (.reg [
    ⟨none, some 15, .ldn 2 (.t 3)⟩,
    ⟨none, some 16, .mv (.t 5)⟩,
    ⟨none, some 17, .call n_laws_szTrain [.t 15, .t 16]⟩,
    ⟨none, some 5, .mv (.t 17)⟩])
 (.seq (.seq (.reg [
     ⟨none, some 18, .mv (.t 5)⟩,
     ⟨none, some 19, .bin .lss (.t 18) (.k (.c (.i 0)))⟩])
  (.cond (.t 19)
   (.seq (.reg [
       ⟨none, some 4, .mv (.k (.c (.b true)))⟩])
    (.ret))
   (.skip)))
 (.seq (.regq [
    ⟨none, some 20, .ldn 4 (.t 2)⟩,
    ⟨none, some 21, .call n_laws_toTariff [.t 20]⟩,
    ⟨none, some 22, .ldn 2 (.t 3)⟩,
    ⟨none, some 23, .call n_laws_toTrain [.t 22]⟩,
    ⟨none, some 24, .call n_spec_TollOf [.t 21, .t 23]⟩,
    ⟨none, some 6, .mv (.t 24)⟩])
 (.seq (.reg [
    ⟨none, some 25, .ldn 4 (.t 2)⟩,
    ⟨none, some 26, .call n_laws_toTariff [.t 25]⟩,
    ⟨none, some 7, .alloc [.c (.i 0), .c (.i 0), .nil 1, .nil 1]⟩,
    ⟨none, none, .stn 4 (.t 7) (.t 26)⟩])
 (.seq (.reg [
    ⟨none, some 27, .ldn 2 (.t 3)⟩,
    ⟨none, some 28, .call n_laws_toTrain [.t 27]⟩,
    ⟨none, some 8, .alloc [.c (.b false), .nil 1]⟩,
    ⟨none, none, .stn 2 (.t 8) (.t 28)⟩])
 (.seq (.reg [
    ⟨none, some 29, .ldn 4 (.t 7)⟩,
    ⟨none, some 30, .ldn 2 (.t 8)⟩,
    ⟨none, some 31, .call n_impl_TollOf [.t 29, .t 30]⟩,
    ⟨none, some 9, .mv (.t 31)⟩])
 (.seq (.seq (.reg [
     ⟨none, some 32, .mv (.t 9)⟩,
     ⟨none, some 33, .mv (.t 6)⟩,
     ⟨none, some 34, .bin .neq (.t 32) (.t 33)⟩])
  (.cond (.t 34)
   (.seq (.reg [
       ⟨none, some 4, .mv (.k (.c (.b false)))⟩])
    (.ret))
   (.skip)))
 (.seq (.seq (.regq [
     ⟨none, some 35, .ldn 4 (.t 7)⟩,
     ⟨none, some 36, .ldn 4 (.t 2)⟩,
     ⟨none, some 37, .call n_laws_toTariff [.t 36]⟩,
     ⟨none, some 38, .call n_laws_eqTariff [.t 35, .t 37]⟩,
     ⟨none, some 39, .not (.t 38)⟩])
  (.cond (.t 39)
   (.seq (.reg [
       ⟨none, some 4, .mv (.k (.c (.b false)))⟩])
    (.ret))
   (.skip)))
 (.seq (.seq (.regq [
     ⟨none, some 40, .ldn 2 (.t 8)⟩,
     ⟨none, some 41, .ldn 2 (.t 3)⟩,
     ⟨none, some 42, .call n_laws_toTrain [.t 41]⟩,
     ⟨none, some 43, .call n_laws_eqTrain [.t 40, .t 42]⟩,
     ⟨none, some 44, .not (.t 43)⟩])
  (.cond (.t 44)
   (.seq (.reg [
       ⟨none, some 4, .mv (.k (.c (.b false)))⟩])
    (.ret))
   (.skip)))
 (.seq (.reg [
    ⟨none, some 4, .mv (.k (.c (.b true)))⟩])
 (.ret))))))))))))))
theorem h_laws_FnExactTollOf : Has Try.prog n_laws_FnExactTollOf 45 c_laws_FnExactTollOf [.t 4] := ⟨by decide, Try.f16, _, Try.func16, rfl, rfl, by kernel_rfl, by kernel_rfl⟩

def c_spec_TollOf : SC :=
 .seq (.reg [
    ⟨none, some 2, .box 4 (.t 0)⟩,
    ⟨none, some 3, .box 2 (.t 1)⟩,
    ⟨none, some 4, .mv (.k (.c (.i 0)))⟩])
 (.seq (.seq (.reg [
     ⟨none, some 5, .ldn 4 (.t 2)⟩,
     ⟨none, some 6, .call n_spec_TariffOk [.t 5]⟩,
     ⟨none, some 7, .not (.t 6)⟩,
     ⟨none, some 8, .mv (.t 7)⟩,
     ⟨some (8, false), some 9, .ldn 2 (.t 3)⟩,
     ⟨some (8, false), some 10, .call n_spec_TrainOk [.t 9]⟩,
     ⟨some (8, false), some 11, .not (.t 10)⟩,
     ⟨none, some 12, .pick (.t 8) (.k (.c (.b true))) (.t 11)⟩])
  (.cond (.t 12)
   (.seq (.reg [
       ⟨none, some 4, .mv (.k (.c (.i 0)))⟩])
    (.ret))
   (.skip)))
 (.seq (.regq [
    ⟨none, some 13, .fld 0 (.t 2)⟩,
    ⟨none, some 14, .ld1 (.t 13)⟩,
    ⟨none, some 15, .fld 1 (.t 2)⟩,
    ⟨none, some 16, .ld1 (.t 15)⟩,
    ⟨none, some 17, .ldn 2 (.t 3)⟩,
    ⟨none, some 18, .call n_spec_LengthOf [.t 17]⟩,
    ⟨none, some 19, .bin .mul (.t 16) (.t 18)⟩,
    ⟨none, some 20, .ldn 2 (.t 3)⟩,
    ⟨none, some 21, .call n_spec_WidthOf [.t 20]⟩,
    ⟨none, some 22, .bin .mul (.t 19) (.t 21)⟩,
    ⟨none, some 23, .bin .quo (.t 22) (.k (.c (.i 100)))⟩,
    ⟨none, some 24, .bin .add (.t 14) (.t 23)⟩,
    ⟨none, some 25, .fld 2 (.t 2)⟩,
    ⟨none, some 26, .ld1 (.t 25)⟩,
    ⟨none, some 27, .ldn 2 (.t 3)⟩,
    ⟨none, some 28, .call n_spec_ClassOf [.t 27]⟩,
    ⟨none, some 29, .idx 1 (.t 26) (.t 28)⟩,
    ⟨none, some 30, .ld1 (.t 29)⟩,
    ⟨none, some 31, .bin .add (.t 24) (.t 30)⟩,
    ⟨none, some 4, .mv (.t 31)⟩])
 (.ret)))
theorem h_spec_TollOf : Has Try.prog n_spec_TollOf 32 c_spec_TollOf [.t 4] := ⟨by decide, Try.f78, _, Try.func78, rfl, rfl, by kernel_rfl, by kernel_rfl⟩

def c_impl_TollOf : SC :=
 .seq (.reg [
    ⟨none, some 2, .box 4 (.t 0)⟩,
    ⟨none, some 3, .box 2 (.t 1)⟩,
    ⟨none, some 4, .mv (.k (.c (.i 0)))⟩])
 (.seq (.seq (.reg [
     ⟨none, some 5, .ldn 4 (.t 2)⟩,
     ⟨none, some 6, .call n_impl_TariffOk [.t 5]⟩,
     ⟨none, some 7, .not (.t 6)⟩,
     ⟨none, some 8, .mv (.t 7)⟩,
     ⟨some (8, false), some 9, .ldn 2 (.t 3)⟩,
     ⟨some (8, false), some 10, .call n_impl_TrainOk [.t 9]⟩,
     ⟨some (8, false), some 11, .not (.t 10)⟩,
     ⟨none, some 12, .pick (.t 8) (.k (.c (.b true))) (.t 11)⟩])
  (.cond (.t 12)
   (.seq (.reg [
       ⟨none, some 4, .mv (.k (.c (.i 0)))⟩])
    (.ret))
   (.skip)))
 (.seq (.regq [
    ⟨none, some 13, .fld 0 (.t 2)⟩,
    ⟨none, some 14, .ld1 (.t 13)⟩,
    ⟨none, some 15, .fld 1 (.t 2)⟩,
    ⟨none, some 16, .ld1 (.t 15)⟩,
    ⟨none, some 17, .ldn 2 (.t 3)⟩,
    ⟨none, some 18, .call n_impl_LengthOf [.t 17]⟩,
    ⟨none, some 19, .bin .mul (.t 16) (.t 18)⟩,
    ⟨none, some 20, .ldn 2 (.t 3)⟩,
    ⟨none, some 21, .call n_impl_WidthOf [.t 20]⟩,
    ⟨none, some 22, .bin .mul (.t 19) (.t 21)⟩,
    ⟨none, some 23, .bin .quo (.t 22) (.k (.c (.i 100)))⟩,
    ⟨none, some 24, .bin .add (.t 14) (.t 23)⟩,
    ⟨none, some 25, .fld 2 (.t 2)⟩,
    ⟨none, some 26, .ld1 (.t 25)⟩,
    ⟨none, some 27, .ldn 2 (.t 3)⟩,
    ⟨none, some 28, .call n_impl_ClassOf [.t 27]⟩,
    ⟨none, some 29, .idx 1 (.t 26) (.t 28)⟩,
    ⟨none, some 30, .ld1 (.t 29)⟩,
    ⟨none, some 31, .bin .add (.t 24) (.t 30)⟩,
    ⟨none, some 4, .mv (.t 31)⟩])
 (.ret)))
theorem h_impl_TollOf : Has Try.prog n_impl_TollOf 32 c_impl_TollOf [.t 4] := ⟨by decide, Try.f79, _, Try.func79, rfl, rfl, by kernel_rfl, by kernel_rfl⟩

def c_spec_LengthOf : SC :=
 .seq (.reg [
    ⟨none, some 1, .box 2 (.t 0)⟩,
    ⟨none, some 2, .mv (.k (.c (.i 0)))⟩])
 (.seq (.reg [
    ⟨none, some 3, .mv (.k (.c (.i 0)))⟩])
 (.seq (.seq (.reg [
     ⟨none, some 4, .mv (.k (.c (.i 0)))⟩])
  (.block 0 (.loop (.seq (.seq (.reg [
        ⟨none, some 7, .mv (.t 4)⟩,
        ⟨none, some 8, .fld 1 (.t 1)⟩,
        ⟨none, some 9, .ld1 (.t 8)⟩,
        ⟨none, some 10, .len (.t 9)⟩,
        ⟨none, some 11, .bin .lss (.t 7) (.t 10)⟩,
        ⟨none, some 12, .mv (.t 11)⟩,
        ⟨some (12, true), some 13, .ldn 2 (.t 1)⟩,
        ⟨some (12, true), some 14, .call n_spec_TrainOk [.t 13]⟩,
        ⟨none, some 15, .pick (.t 12) (.t 14) (.k (.c (.b false)))⟩])
     (.cond (.t 15)
      (.skip)
      (.exit 0)))
    (.seq (.block 1 (.seq (.reg [
         ⟨none, some 5, .mv (.k (.c (.i 0)))⟩])
      (.seq (.seq (.reg [
          ⟨none, some 6, .mv (.k (.c (.i 0)))⟩])
       (.block 2 (.loop (.seq (.seq (.reg [
             ⟨none, some 18, .mv (.t 6)⟩,
             ⟨none, some 19, .fld 1 (.t 1)⟩,
             ⟨none, some 20, .ld1 (.t 19)⟩,
             ⟨none, some 21, .mv (.t 4)⟩,
             ⟨none, some 22, .idx 1 (.t 20) (.t 21)⟩,
             ⟨none, some 23, .ld1 (.t 22)⟩,
             ⟨none, some 24, .len (.t 23)⟩,
             ⟨none, some 25, .bin .lss (.t 18) (.t 24)⟩])
          (.cond (.t 25)
           (.skip)
           (.exit 2)))
         (.seq (.block 3 (.reg [
             ⟨none, some 28, .mv (.t 5)⟩,
             ⟨none, some 29, .fld 1 (.t 1)⟩,
             ⟨none, some 30, .ld1 (.t 29)⟩,
             ⟨none, some 31, .mv (.t 4)⟩,
             ⟨none, some 32, .idx 1 (.t 30) (.t 31)⟩,
             ⟨none, some 33, .ld1 (.t 32)⟩,
             ⟨none, some 34, .mv (.t 6)⟩,
             ⟨none, some 35, .idx 6 (.t 33) (.t 34)⟩,
             ⟨none, some 36, .fld 1 (.t 35)⟩,
             ⟨none, some 37, .ld1 (.t 36)⟩,
             ⟨none, some 38, .mx [.t 28, .t 37]⟩,
             ⟨none, some 5, .mv (.t 38)⟩]))
         (.reg [
           ⟨none, some 26, .mv (.t 6)⟩,
           ⟨none, some 27, .bin .add (.t 26) (.k (.c (.i 1)))⟩,
           ⟨none, some 6, .mv (.t 27)⟩]))))))
      (.reg [
        ⟨none, some 39, .mv (.t 3)⟩,
        ⟨none, some 40, .mv (.t 5)⟩,
        ⟨none, some 41, .bin .add (.t 39) (.t 40)⟩,
        ⟨none, some 3, .mv (.t 41)⟩]))))
    (.reg [
      ⟨none, some 16, .mv (.t 4)⟩,
      ⟨none, some 17, .bin .add (.t 16) (.k (.c (.i 1)))⟩,
      ⟨none, some 4, .mv (.t 17)⟩]))))))
 (.seq (.reg [
    ⟨none, some 42, .mv (.t 3)⟩,
    ⟨none, some 2, .mv (.t 42)⟩])
 (.ret))))
theorem h_spec_LengthOf : Has Try.prog n_spec_LengthOf 43 c_spec_LengthOf [.t 2] := ⟨by decide, Try.f145, _, Try.func145, rfl, rfl, by kernel_rfl, by kernel_rfl⟩

def c_spec_WidthOf : SC :=
 .seq (.reg [
    ⟨none, some 1, .box 2 (.t 0)⟩,
    ⟨none, some 2, .mv (.k (.c (.i 0)))⟩])
 (.seq (.reg [
    ⟨none, some 3, .mv (.k (.c (.i 0)))⟩])
 (.seq (.seq (.reg [
     ⟨none, some 4, .mv (.k (.c (.i 0)))⟩])
  (.block 0 (.loop (.seq (.seq (.reg [
        ⟨none, some 7, .mv (.t 4)⟩,
        ⟨none, some 8, .fld 1 (.t 1)⟩,
        ⟨none, some 9, .ld1 (.t 8)⟩,
        ⟨none, some 10, .len (.t 9)⟩,
        ⟨none, some 11, .bin .lss (.t 7) (.t 10)⟩,
        ⟨none, some 12, .mv (.t 11)⟩,
        ⟨some (12, true), some 13, .ldn 2 (.t 1)⟩,
        ⟨some (12, true), some 14, .call n_spec_TrainOk [.t 13]⟩,
        ⟨none, some 15, .pick (.t 12) (.t 14) (.k (.c (.b false)))⟩])
     (.cond (.t 15)
      (.skip)
      (.exit 0)))
    (.seq (.block 1 (.seq (.reg [
         ⟨none, some 5, .mv (.k (.c (.i 0)))⟩])
      (.seq (.seq (.reg [
          ⟨none, some 6, .mv (.k (.c (.i 0)))⟩])
       (.block 2 (.loop (.seq (.seq (.reg [
             ⟨none, some 18, .mv (.t 6)⟩,
             ⟨none, some 19, .fld 1 (.t 1)⟩,
             ⟨none, some 20, .ld1 (.t 19)⟩,
             ⟨none, some 21, .mv (.t 4)⟩,
             ⟨none, some 22, .idx 1 (.t 20) (.t 21)⟩,
             ⟨none, some 23, .ld1 (.t 22)⟩,
             ⟨none, some 24, .len (.t 23)⟩,
             ⟨none, some 25, .bin .lss (.t 18) (.t 24)⟩])
          (.cond (.t 25)
           (.skip)
           (.exit 2)))
         (.seq (.block 3 (.reg [
             ⟨none, some 28, .mv (.t 5)⟩,
             ⟨none, some 29, .fld 1 (.t 1)⟩,
             ⟨none, some 30, .ld1 (.t 29)⟩,
             ⟨none, some 31, .mv (.t 4)⟩,
             ⟨none, some 32, .idx 1 (.t 30) (.t 31)⟩,
             ⟨none, some 33, .ld1 (.t 32)⟩,
             ⟨none, some 34, .mv (.t 6)⟩,
             ⟨none, some 35, .idx 6 (.t 33) (.t 34)⟩,
             ⟨none, some 36, .fld 2 (.t 35)⟩,
             ⟨none, some 37, .ld1 (.t 36)⟩,
             ⟨none, some 38, .bin .add (.t 28) (.t 37)⟩,
             ⟨none, some 5, .mv (.t 38)⟩]))
         (.reg [
           ⟨none, some 26, .mv (.t 6)⟩,
           ⟨none, some 27, .bin .add (.t 26) (.k (.c (.i 1)))⟩,
           ⟨none, some 6, .mv (.t 27)⟩]))))))
      (.reg [
        ⟨none, some 39, .mv (.t 3)⟩,
        ⟨none, some 40, .mv (.t 5)⟩,
        ⟨none, some 41, .mx [.t 39, .t 40]⟩,
        ⟨none, some 3, .mv (.t 41)⟩]))))
    (.reg [
      ⟨none, some 16, .mv (.t 4)⟩,
      ⟨none, some 17, .bin .add (.t 16) (.k (.c (.i 1)))⟩,
      ⟨none, some 4, .mv (.t 17)⟩]))))))
 (.seq (.reg [
    ⟨none, some 42, .mv (.t 3)⟩,
    ⟨none, some 2, .mv (.t 42)⟩])
 (.ret))))
theorem h_spec_WidthOf : Has Try.prog n_spec_WidthOf 43 c_spec_WidthOf [.t 2] := ⟨by decide, Try.f146, _, Try.func146, rfl, rfl, by kernel_rfl, by kernel_rfl⟩

end Go.Proofs.Ytfmgadchjiplmaa
