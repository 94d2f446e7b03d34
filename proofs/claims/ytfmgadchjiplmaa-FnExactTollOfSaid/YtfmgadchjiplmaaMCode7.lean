/- Functions of this seat in the small language, written by a program (GenCode) out of the translation; each is held against the translation by the kernel. -/
import Derived.Test.YtfmgadchjiplmaaMNames
import Derived.KernelRfl
set_option linter.all false
namespace Go.Proofs.Ytfmgadchjiplmaa
open Go.RowKit

def c_impl_ShareOut : SC :=
 .seq (.reg [
    ⟨none, some 2, .box 1 (.t 0)⟩,
    ⟨none, some 3, .box 1 (.t 1)⟩,
    ⟨none, some 4, .mv (.k (.nil 1))⟩])
 (.seq (.seq (.reg [
     ⟨none, some 14, .ld1 (.t 2)⟩,
     ⟨none, some 15, .call n_impl_inRange [.t 14, .k (.c (.i 0)), .k (.c (.i 1000000000))]⟩,
     ⟨none, some 16, .not (.t 15)⟩,
     ⟨none, some 17, .mv (.t 16)⟩,
     ⟨some (17, false), some 18, .ld1 (.t 3)⟩,
     ⟨some (17, false), some 19, .len (.t 18)⟩,
     ⟨some (17, false), some 20, .bin .lss (.t 19) (.k (.c (.i 1)))⟩,
     ⟨none, some 21, .pick (.t 17) (.k (.c (.b true))) (.t 20)⟩,
     ⟨none, some 22, .mv (.t 21)⟩,
     ⟨some (22, false), some 23, .ld1 (.t 3)⟩,
     ⟨some (22, false), some 24, .len (.t 23)⟩,
     ⟨some (22, false), some 25, .bin .gtr (.t 24) (.k (.c (.i 12)))⟩,
     ⟨none, some 26, .pick (.t 22) (.k (.c (.b true))) (.t 25)⟩])
  (.cond (.t 26)
   (.seq (.reg [
       ⟨none, some 4, .mv (.k (.nil 1))⟩])
    (.ret))
   (.skip)))
 (.seq (.reg [
    ⟨none, some 5, .alloc [.c (.i 0)]⟩,
    ⟨none, none, .st1 (.t 5) (.k (.c (.i 0)))⟩])
 (.seq (.seq (.reg [
     ⟨none, some 27, .ld1 (.t 3)⟩,
     ⟨none, some 28, .len (.t 27)⟩,
     ⟨none, some 29, .mv (.k (.c (.i 0)))⟩])
  (.block 0 (.loop (.seq (.reg [
       ⟨none, some 30, .bin .lss (.t 29) (.t 28)⟩])
    (.seq (.cond (.t 30)
      (.skip)
      (.exit 0))
    (.seq (.block 1 (.seq (.reg [
         ⟨none, some 31, .idx 1 (.t 27) (.t 29)⟩,
         ⟨none, some 32, .ld1 (.t 31)⟩,
         ⟨none, some 7, .mv (.t 32)⟩])
      (.seq (.seq (.reg [
          ⟨none, some 33, .mv (.t 7)⟩,
          ⟨none, some 34, .call n_impl_inRange [.t 33, .k (.c (.i 0)), .k (.c (.i 1000000))]⟩,
          ⟨none, some 35, .not (.t 34)⟩])
       (.cond (.t 35)
        (.seq (.reg [
            ⟨none, some 4, .mv (.k (.nil 1))⟩])
         (.ret))
        (.skip)))
      (.reg [
        ⟨none, some 36, .ld1 (.t 5)⟩,
        ⟨none, some 37, .mv (.t 7)⟩,
        ⟨none, some 38, .bin .add (.t 36) (.t 37)⟩,
        ⟨none, none, .st1 (.t 5) (.t 38)⟩]))))
    (.reg [
      ⟨none, some 39, .bin .add (.t 29) (.k (.c (.i 1)))⟩,
      ⟨none, some 29, .mv (.t 39)⟩])))))))
 (.seq (.seq (.reg [
     ⟨none, some 40, .ld1 (.t 5)⟩,
     ⟨none, some 41, .bin .eql (.t 40) (.k (.c (.i 0)))⟩])
  (.cond (.t 41)
   (.seq (.reg [
       ⟨none, some 4, .mv (.k (.nil 1))⟩])
    (.ret))
   (.skip)))
 (.seq (.reg [
    ⟨none, some 42, .ld1 (.t 3)⟩,
    ⟨none, some 43, .len (.t 42)⟩,
    ⟨none, some 44, .mks 1 8 [.i 0] (.t 43) (.t 43)⟩,
    ⟨none, some 8, .mv (.t 44)⟩])
 (.seq (.reg [
    ⟨none, some 45, .ld1 (.t 3)⟩,
    ⟨none, some 46, .len (.t 45)⟩,
    ⟨none, some 47, .mks 1 8 [.i 0] (.t 46) (.t 46)⟩,
    ⟨none, some 9, .mv (.t 47)⟩])
 (.seq (.reg [
    ⟨none, some 48, .ld1 (.t 2)⟩,
    ⟨none, some 10, .mv (.t 48)⟩])
 (.seq (.seq (.reg [
     ⟨none, some 49, .ld1 (.t 3)⟩,
     ⟨none, some 50, .len (.t 49)⟩,
     ⟨none, some 51, .mv (.k (.c (.i 0)))⟩])
  (.block 2 (.loop (.seq (.reg [
       ⟨none, some 52, .bin .lss (.t 51) (.t 50)⟩])
    (.seq (.cond (.t 52)
      (.skip)
      (.exit 2))
    (.seq (.block 3 (.seq (.reg [
         ⟨none, some 53, .mv (.t 51)⟩,
         ⟨none, some 54, .idx 1 (.t 49) (.t 51)⟩,
         ⟨none, some 55, .ld1 (.t 54)⟩,
         ⟨none, some 11, .mv (.t 53)⟩,
         ⟨none, some 12, .mv (.t 55)⟩])
      (.seq (.reg [
         ⟨none, some 56, .mv (.t 8)⟩,
         ⟨none, some 57, .mv (.t 11)⟩,
         ⟨none, some 58, .ld1 (.t 2)⟩,
         ⟨none, some 59, .mv (.t 12)⟩,
         ⟨none, some 60, .bin .mul (.t 58) (.t 59)⟩,
         ⟨none, some 61, .ld1 (.t 5)⟩,
         ⟨none, some 62, .bin .quo (.t 60) (.t 61)⟩,
         ⟨none, some 63, .idx 1 (.t 56) (.t 57)⟩,
         ⟨none, none, .st1 (.t 63) (.t 62)⟩])
      (.seq (.reg [
         ⟨none, some 64, .mv (.t 10)⟩,
         ⟨none, some 65, .mv (.t 8)⟩,
         ⟨none, some 66, .mv (.t 11)⟩,
         ⟨none, some 67, .idx 1 (.t 65) (.t 66)⟩,
         ⟨none, some 68, .ld1 (.t 67)⟩,
         ⟨none, some 69, .bin .sub (.t 64) (.t 68)⟩,
         ⟨none, some 10, .mv (.t 69)⟩])
      (.reg [
        ⟨none, some 70, .mv (.t 9)⟩,
        ⟨none, some 71, .mv (.t 11)⟩,
        ⟨none, some 72, .mv (.t 11)⟩,
        ⟨none, some 73, .idx 1 (.t 70) (.t 71)⟩,
        ⟨none, none, .st1 (.t 73) (.t 72)⟩])))))
    (.reg [
      ⟨none, some 74, .bin .add (.t 51) (.k (.c (.i 1)))⟩,
      ⟨none, some 51, .mv (.t 74)⟩])))))))
 (.seq (.reg [
    ⟨none, some 75, .mv (.t 9)⟩,
    ⟨none, some 76, .mkf n_impl_ShareOut_1 [.t 2, .t 3, .t 5]⟩,
    ⟨none, some 77, .call n_slices_SortStableFunc___int_int_ [.t 75, .t 76]⟩])
 (.seq (.seq (.reg [
     ⟨none, some 13, .mv (.k (.c (.i 0)))⟩])
  (.block 4 (.loop (.seq (.seq (.reg [
        ⟨none, some 78, .mv (.t 13)⟩,
        ⟨none, some 79, .mv (.t 10)⟩,
        ⟨none, some 80, .bin .lss (.t 78) (.t 79)⟩])
     (.cond (.t 80)
      (.skip)
      (.exit 4)))
    (.seq (.block 5 (.reg [
        ⟨none, some 83, .mv (.t 8)⟩,
        ⟨none, some 84, .mv (.t 9)⟩,
        ⟨none, some 85, .mv (.t 13)⟩,
        ⟨none, some 86, .idx 1 (.t 84) (.t 85)⟩,
        ⟨none, some 87, .ld1 (.t 86)⟩,
        ⟨none, some 88, .idx 1 (.t 83) (.t 87)⟩,
        ⟨none, some 89, .ld1 (.t 88)⟩,
        ⟨none, some 90, .bin .add (.t 89) (.k (.c (.i 1)))⟩,
        ⟨none, some 91, .idx 1 (.t 83) (.t 87)⟩,
        ⟨none, none, .st1 (.t 91) (.t 90)⟩]))
    (.reg [
      ⟨none, some 81, .mv (.t 13)⟩,
      ⟨none, some 82, .bin .add (.t 81) (.k (.c (.i 1)))⟩,
      ⟨none, some 13, .mv (.t 82)⟩]))))))
 (.seq (.reg [
    ⟨none, some 92, .mv (.t 8)⟩,
    ⟨none, some 4, .mv (.t 92)⟩])
 (.ret))))))))))))
theorem h_impl_ShareOut : Has Try.prog n_impl_ShareOut 93 c_impl_ShareOut [.t 4] := ⟨by decide, Try.f159, _, Try.func159, rfl, rfl, by kernel_rfl, by kernel_rfl⟩

def c_impl_ShareOut_1 : SC :=
 .seq (.reg [
    ⟨none, some 7, .mv (.k (.c (.i 0)))⟩])
 (.seq (.regq [
    ⟨none, some 8, .ld1 (.t 2)⟩,
    ⟨none, some 9, .ld1 (.t 3)⟩,
    ⟨none, some 10, .mv (.t 1)⟩,
    ⟨none, some 11, .idx 1 (.t 9) (.t 10)⟩,
    ⟨none, some 12, .ld1 (.t 11)⟩,
    ⟨none, some 13, .bin .mul (.t 8) (.t 12)⟩,
    ⟨none, some 14, .ld1 (.t 4)⟩,
    ⟨none, some 15, .bin .rem (.t 13) (.t 14)⟩,
    ⟨none, some 16, .ld1 (.t 2)⟩,
    ⟨none, some 17, .ld1 (.t 3)⟩,
    ⟨none, some 18, .mv (.t 0)⟩,
    ⟨none, some 19, .idx 1 (.t 17) (.t 18)⟩,
    ⟨none, some 20, .ld1 (.t 19)⟩,
    ⟨none, some 21, .bin .mul (.t 16) (.t 20)⟩,
    ⟨none, some 22, .ld1 (.t 4)⟩,
    ⟨none, some 23, .bin .rem (.t 21) (.t 22)⟩,
    ⟨none, some 24, .bin .sub (.t 15) (.t 23)⟩,
    ⟨none, some 7, .mv (.t 24)⟩])
 (.ret))
theorem h_impl_ShareOut_1 : Has Try.prog n_impl_ShareOut_1 25 c_impl_ShareOut_1 [.t 7] := ⟨by decide, Try.f217, _, Try.func217, rfl, rfl, by kernel_rfl, by kernel_rfl⟩

def c_laws_FnExactOrderCalls : SC :=
 .seq (.reg [
    ⟨none, some 4, .mv (.k (.c (.b false)))⟩])
 (.seq (.reg [
    ⟨none, some 5, .mv (.k (.c (.i 1048576)))⟩])
 (.seq (.reg [
    ⟨none, some 13, .mv (.t 0)⟩,
    ⟨none, some 14, .mv (.t 5)⟩,
    ⟨none, some 15, .call n_laws_szCallS [.t 13, .t 14]⟩,
    ⟨none, some 5, .mv (.t 15)⟩])
 (.seq (.seq (.reg [
     ⟨none, some 16, .mv (.t 5)⟩,
     ⟨none, some 17, .bin .lss (.t 16) (.k (.c (.i 0)))⟩])
  (.cond (.t 17)
   (.seq (.reg [
       ⟨none, some 4, .mv (.k (.c (.b true)))⟩])
    (.ret))
   (.skip)))
 (.seq (.reg [
    ⟨none, some 18, .mv (.t 0)⟩,
    ⟨none, some 19, .call n_laws_toCallS [.t 18]⟩,
    ⟨none, some 20, .mv (.t 1)⟩,
    ⟨none, some 21, .call n_spec_OrderCalls [.t 19, .t 20]⟩,
    ⟨none, some 6, .mv (.t 21)⟩])
 (.seq (.reg [
    ⟨none, some 22, .mv (.t 0)⟩,
    ⟨none, some 23, .call n_laws_toCallS [.t 22]⟩,
    ⟨none, some 7, .mv (.t 23)⟩])
 (.seq (.reg [
    ⟨none, some 24, .mv (.t 7)⟩,
    ⟨none, some 25, .mv (.t 1)⟩,
    ⟨none, some 26, .call n_impl_OrderCalls [.t 24, .t 25]⟩,
    ⟨none, some 8, .mv (.t 26)⟩])
 (.seq (.seq (.reg [
     ⟨none, some 27, .mv (.t 8)⟩,
     ⟨none, some 28, .mv (.t 6)⟩,
     ⟨none, some 29, .call n_laws_eqIntS [.t 27, .t 28]⟩,
     ⟨none, some 30, .not (.t 29)⟩])
  (.cond (.t 30)
   (.seq (.reg [
       ⟨none, some 4, .mv (.k (.c (.b false)))⟩])
    (.ret))
   (.skip)))
 (.seq (.seq (.reg [
     ⟨none, some 31, .mv (.t 7)⟩,
     ⟨none, some 32, .mv (.t 0)⟩,
     ⟨none, some 33, .call n_laws_toCallS [.t 32]⟩,
     ⟨none, some 34, .call n_laws_eqCallS [.t 31, .t 33]⟩,
     ⟨none, some 35, .not (.t 34)⟩])
  (.cond (.t 35)
   (.seq (.reg [
       ⟨none, some 4, .mv (.k (.c (.b false)))⟩])
    (.ret))
   (.skip)))
 (.seq (.reg [
    ⟨none, some 9, .mv (.k (.c (.i 1)))⟩])
 (.seq (.reg [
    ⟨none, some 36, .mv (.t 7)⟩,
    ⟨none, some 37, .mv (.t 9)⟩,
    ⟨none, some 38, .call n_laws_markCallS [.t 36, .t 37]⟩,
    ⟨none, some 9, .mv (.t 38)⟩])
 (.seq (.seq (.reg [
     ⟨none, some 39, .mv (.t 9)⟩,
     ⟨none, some 40, .bin .lss (.t 39) (.k (.c (.i 0)))⟩,
     ⟨none, some 41, .mv (.t 40)⟩,
     ⟨some (41, false), some 42, .mv (.t 8)⟩,
     ⟨some (41, false), some 43, .mv (.t 6)⟩,
     ⟨some (41, false), some 44, .call n_laws_eqIntS [.t 42, .t 43]⟩,
     ⟨some (41, false), some 45, .not (.t 44)⟩,
     ⟨none, some 46, .pick (.t 41) (.k (.c (.b true))) (.t 45)⟩])
  (.cond (.t 46)
   (.seq (.reg [
       ⟨none, some 4, .mv (.k (.c (.b false)))⟩])
    (.ret))
   (.skip)))
 (.seq (.reg [
    ⟨none, some 10, .mv (.k (.c (.i 1)))⟩])
 (.seq (.reg [
    ⟨none, some 47, .mv (.t 8)⟩,
    ⟨none, some 48, .mv (.t 10)⟩,
    ⟨none, some 49, .call n_laws_markIntS [.t 47, .t 48]⟩,
    ⟨none, some 10, .mv (.t 49)⟩])
 (.seq (.reg [
    ⟨none, some 11, .mv (.k (.c (.i 1)))⟩])
 (.seq (.reg [
    ⟨none, some 50, .mv (.t 8)⟩,
    ⟨none, some 51, .mv (.t 11)⟩,
    ⟨none, some 52, .call n_laws_heldIntS [.t 50, .t 51]⟩,
    ⟨none, some 11, .mv (.t 52)⟩])
 (.seq (.seq (.reg [
     ⟨none, some 53, .mv (.t 11)⟩,
     ⟨none, some 54, .bin .lss (.t 53) (.k (.c (.i 0)))⟩])
  (.cond (.t 54)
   (.seq (.reg [
       ⟨none, some 4, .mv (.k (.c (.b false)))⟩])
    (.ret))
   (.skip)))
 (.seq (.seq (.reg [
     ⟨none, some 55, .mv (.t 11)⟩,
     ⟨none, some 56, .mv (.t 10)⟩,
     ⟨none, some 57, .bin .neq (.t 55) (.t 56)⟩])
  (.cond (.t 57)
   (.seq (.reg [
       ⟨none, some 4, .mv (.k (.c (.b false)))⟩])
    (.ret))
   (.skip)))
 (.seq (.reg [
    ⟨none, some 58, .mv (.t 0)⟩,
    ⟨none, some 59, .call n_laws_toCallS [.t 58]⟩,
    ⟨none, some 60, .mv (.t 1)⟩,
    ⟨none, some 61, .call n_impl_OrderCalls [.t 59, .t 60]⟩,
    ⟨none, some 12, .mv (.t 61)⟩])
 (.seq (.seq (.reg [
     ⟨none, some 62, .mv (.t 12)⟩,
     ⟨none, some 63, .mv (.t 6)⟩,
     ⟨none, some 64, .call n_laws_eqIntS [.t 62, .t 63]⟩,
     ⟨none, some 65, .not (.t 64)⟩])
  (.cond (.t 65)
   (.seq (.reg [
       ⟨none, some 4, .mv (.k (.c (.b false)))⟩])
    (.ret))
   (.skip)))
 (.seq (.reg [
    ⟨none, some 11, .mv (.k (.c (.i 1)))⟩])
 (.seq (.reg [
    ⟨none, some 66, .mv (.t 8)⟩,
    ⟨none, some 67, .mv (.t 11)⟩,
    ⟨none, some 68, .call n_laws_heldIntS [.t 66, .t 67]⟩,
    ⟨none, some 11, .mv (.t 68)⟩])
 (.seq (.seq (.reg [
     ⟨none, some 69, .mv (.t 11)⟩,
     ⟨none, some 70, .bin .lss (.t 69) (.k (.c (.i 0)))⟩])
  (.cond (.t 70)
   (.seq (.reg [
       ⟨none, some 4, .mv (.k (.c (.b false)))⟩])
    (.ret))
   (.skip)))
 (.seq (.seq (.reg [
     ⟨none, some 71, .mv (.t 11)⟩,
     ⟨none, some 72, .mv (.t 10)⟩,
     ⟨none, some 73, .bin .neq (.t 71) (.t 72)⟩])
  (.cond (.t 73)
   (.seq (.reg [
       ⟨none, some 4, .mv (.k (.c (.b false)))⟩])
    (.ret))
   (.skip)))
 (.seq (.reg [
    ⟨none, some 4, .mv (.k (.c (.b true)))⟩])
 (.ret)))))))))))))))))))))))))
theorem h_laws_FnExactOrderCalls : Has Try.prog n_laws_FnExactOrderCalls 74 c_laws_FnExactOrderCalls [.t 4] := ⟨by decide, Try.f21, _, Try.func21, rfl, rfl, by kernel_rfl, by kernel_rfl⟩

def c_laws_markCallS : SC :=
 .seq (.reg [
    ⟨none, some 4, .mv (.k (.c (.i 0)))⟩])
 (.seq (.seq (.reg [
     ⟨none, some 5, .mv (.k (.c (.i 0)))⟩])
  (.block 0 (.loop (.seq (.seq (.reg [
        ⟨none, some 6, .mv (.t 5)⟩,
        ⟨none, some 7, .mv (.t 0)⟩,
        ⟨none, some 8, .len (.t 7)⟩,
        ⟨none, some 9, .bin .lss (.t 6) (.t 8)⟩])
     (.cond (.t 9)
      (.skip)
      (.exit 0)))
    (.seq (.block 1 (.seq (.reg [
         ⟨none, some 12, .mv (.t 0)⟩,
         ⟨none, some 13, .mv (.t 5)⟩,
         ⟨none, some 14, .mv (.t 1)⟩,
         ⟨none, some 15, .bin .rem (.t 14) (.k (.c (.i 3)))⟩,
         ⟨none, some 16, .bin .eql (.t 15) (.k (.c (.i 0)))⟩,
         ⟨none, some 17, .idx 4 (.t 12) (.t 13)⟩,
         ⟨none, some 18, .fld 0 (.t 17)⟩,
         ⟨none, some 19, .fld 0 (.t 18)⟩,
         ⟨none, none, .st1 (.t 19) (.t 16)⟩])
      (.seq (.reg [
         ⟨none, some 20, .mv (.t 1)⟩,
         ⟨none, some 21, .bin .add (.t 20) (.k (.c (.i 1)))⟩,
         ⟨none, some 1, .mv (.t 21)⟩])
      (.seq (.reg [
         ⟨none, some 22, .mv (.t 0)⟩,
         ⟨none, some 23, .mv (.t 5)⟩,
         ⟨none, some 24, .idx 4 (.t 22) (.t 23)⟩,
         ⟨none, some 25, .fld 0 (.t 24)⟩,
         ⟨none, some 26, .fld 1 (.t 25)⟩,
         ⟨none, some 27, .ld1 (.t 26)⟩,
         ⟨none, some 28, .mv (.t 1)⟩,
         ⟨none, some 29, .call n_laws_markBoatSS [.t 27, .t 28]⟩,
         ⟨none, some 1, .mv (.t 29)⟩])
      (.seq (.reg [
         ⟨none, some 30, .mv (.t 0)⟩,
         ⟨none, some 31, .mv (.t 5)⟩,
         ⟨none, some 32, .mv (.t 1)⟩,
         ⟨none, some 33, .idx 4 (.t 30) (.t 31)⟩,
         ⟨none, some 34, .fld 2 (.t 33)⟩,
         ⟨none, none, .st1 (.t 34) (.t 32)⟩])
      (.seq (.reg [
         ⟨none, some 35, .mv (.t 1)⟩,
         ⟨none, some 36, .bin .add (.t 35) (.k (.c (.i 1)))⟩,
         ⟨none, some 1, .mv (.t 36)⟩])
      (.seq (.reg [
         ⟨none, some 37, .mv (.t 0)⟩,
         ⟨none, some 38, .mv (.t 5)⟩,
         ⟨none, some 39, .mv (.t 1)⟩,
         ⟨none, some 40, .idx 4 (.t 37) (.t 38)⟩,
         ⟨none, some 41, .fld 3 (.t 40)⟩,
         ⟨none, none, .st1 (.t 41) (.t 39)⟩])
      (.reg [
        ⟨none, some 42, .mv (.t 1)⟩,
        ⟨none, some 43, .bin .add (.t 42) (.k (.c (.i 1)))⟩,
        ⟨none, some 1, .mv (.t 43)⟩]))))))))
    (.reg [
      ⟨none, some 10, .mv (.t 5)⟩,
      ⟨none, some 11, .bin .add (.t 10) (.k (.c (.i 1)))⟩,
      ⟨none, some 5, .mv (.t 11)⟩]))))))
 (.seq (.reg [
    ⟨none, some 44, .mv (.t 1)⟩,
    ⟨none, some 4, .mv (.t 44)⟩])
 (.ret)))
theorem h_laws_markCallS : Has Try.prog n_laws_markCallS 45 c_laws_markCallS [.t 4] := ⟨by decide, Try.f100, _, Try.func100, rfl, rfl, by kernel_rfl, by kernel_rfl⟩

def c_laws_markBoatSS : SC :=
 .seq (.reg [
    ⟨none, some 4, .mv (.k (.c (.i 0)))⟩])
 (.seq (.seq (.reg [
     ⟨none, some 5, .mv (.k (.c (.i 0)))⟩])
  (.block 0 (.loop (.seq (.seq (.reg [
        ⟨none, some 6, .mv (.t 5)⟩,
        ⟨none, some 7, .mv (.t 0)⟩,
        ⟨none, some 8, .len (.t 7)⟩,
        ⟨none, some 9, .bin .lss (.t 6) (.t 8)⟩])
     (.cond (.t 9)
      (.skip)
      (.exit 0)))
    (.seq (.block 1 (.reg [
        ⟨none, some 12, .mv (.t 0)⟩,
        ⟨none, some 13, .mv (.t 5)⟩,
        ⟨none, some 14, .idx 1 (.t 12) (.t 13)⟩,
        ⟨none, some 15, .ld1 (.t 14)⟩,
        ⟨none, some 16, .mv (.t 1)⟩,
        ⟨none, some 17, .call n_laws_markBoatS [.t 15, .t 16]⟩,
        ⟨none, some 1, .mv (.t 17)⟩]))
    (.reg [
      ⟨none, some 10, .mv (.t 5)⟩,
      ⟨none, some 11, .bin .add (.t 10) (.k (.c (.i 1)))⟩,
      ⟨none, some 5, .mv (.t 11)⟩]))))))
 (.seq (.reg [
    ⟨none, some 18, .mv (.t 1)⟩,
    ⟨none, some 4, .mv (.t 18)⟩])
 (.ret)))
theorem h_laws_markBoatSS : Has Try.prog n_laws_markBoatSS 19 c_laws_markBoatSS [.t 4] := ⟨by decide, Try.f170, _, Try.func170, rfl, rfl, by kernel_rfl, by kernel_rfl⟩

def c_laws_markBoatS : SC :=
 .seq (.reg [
    ⟨none, some 4, .mv (.k (.c (.i 0)))⟩])
 (.seq (.seq (.reg [
     ⟨none, some 5, .mv (.k (.c (.i 0)))⟩])
  (.block 0 (.loop (.seq (.seq (.reg [
        ⟨none, some 6, .mv (.t 5)⟩,
        ⟨none, some 7, .mv (.t 0)⟩,
        ⟨none, some 8, .len (.t 7)⟩,
        ⟨none, some 9, .bin .lss (.t 6) (.t 8)⟩])
     (.cond (.t 9)
      (.skip)
      (.exit 0)))
    (.seq (.block 1 (.seq (.reg [
         ⟨none, some 12, .mv (.t 0)⟩,
         ⟨none, some 13, .mv (.t 5)⟩,
         ⟨none, some 14, .mv (.t 1)⟩,
         ⟨none, some 15, .idx 6 (.t 12) (.t 13)⟩,
         ⟨none, some 16, .fld 0 (.t 15)⟩,
         ⟨none, none, .st1 (.t 16) (.t 14)⟩])
      (.seq (.reg [
         ⟨none, some 17, .mv (.t 1)⟩,
         ⟨none, some 18, .bin .add (.t 17) (.k (.c (.i 1)))⟩,
         ⟨none, some 1, .mv (.t 18)⟩])
      (.seq (.reg [
         ⟨none, some 19, .mv (.t 0)⟩,
         ⟨none, some 20, .mv (.t 5)⟩,
         ⟨none, some 21, .mv (.t 1)⟩,
         ⟨none, some 22, .idx 6 (.t 19) (.t 20)⟩,
         ⟨none, some 23, .fld 1 (.t 22)⟩,
         ⟨none, none, .st1 (.t 23) (.t 21)⟩])
      (.seq (.reg [
         ⟨none, some 24, .mv (.t 1)⟩,
         ⟨none, some 25, .bin .add (.t 24) (.k (.c (.i 1)))⟩,
         ⟨none, some 1, .mv (.t 25)⟩])
      (.seq (.reg [
         ⟨none, some 26, .mv (.t 0)⟩,
         ⟨none, some 27, .mv (.t 5)⟩,
         ⟨none, some 28, .mv (.t 1)⟩,
         ⟨none, some 29, .idx 6 (.t 26) (.t 27)⟩,
         ⟨none, some 30, .fld 2 (.t 29)⟩,
         ⟨none, none, .st1 (.t 30) (.t 28)⟩])
      (.seq (.reg [
         ⟨none, some 31, .mv (.t 1)⟩,
         ⟨none, some 32, .bin .add (.t 31) (.k (.c (.i 1)))⟩,
         ⟨none, some 1, .mv (.t 32)⟩])
      (.seq (.reg [
         ⟨none, some 33, .mv (.t 0)⟩,
         ⟨none, some 34, .mv (.t 5)⟩,
         ⟨none, some 35, .mv (.t 1)⟩,
         ⟨none, some 36, .idx 6 (.t 33) (.t 34)⟩,
         ⟨none, some 37, .fld 3 (.t 36)⟩,
         ⟨none, none, .st1 (.t 37) (.t 35)⟩])
      (.seq (.reg [
         ⟨none, some 38, .mv (.t 1)⟩,
         ⟨none, some 39, .bin .add (.t 38) (.k (.c (.i 1)))⟩,
         ⟨none, some 1, .mv (.t 39)⟩])
      (.seq (.reg [
         ⟨none, some 40, .mv (.t 0)⟩,
         ⟨none, some 41, .mv (.t 5)⟩,
         ⟨none, some 42, .mv (.t 1)⟩,
         ⟨none, some 43, .idx 6 (.t 40) (.t 41)⟩,
         ⟨none, some 44, .fld 4 (.t 43)⟩,
         ⟨none, none, .st1 (.t 44) (.t 42)⟩])
      (.seq (.reg [
         ⟨none, some 45, .mv (.t 1)⟩,
         ⟨none, some 46, .bin .add (.t 45) (.k (.c (.i 1)))⟩,
         ⟨none, some 1, .mv (.t 46)⟩])
      (.seq (.reg [
         ⟨none, some 47, .mv (.t 0)⟩,
         ⟨none, some 48, .mv (.t 5)⟩,
         ⟨none, some 49, .mv (.t 1)⟩,
         ⟨none, some 50, .idx 6 (.t 47) (.t 48)⟩,
         ⟨none, some 51, .fld 5 (.t 50)⟩,
         ⟨none, none, .st1 (.t 51) (.t 49)⟩])
      (.reg [
        ⟨none, some 52, .mv (.t 1)⟩,
        ⟨none, some 53, .bin .add (.t 52) (.k (.c (.i 1)))⟩,
        ⟨none, some 1, .mv (.t 53)⟩])))))))))))))
    (.reg [
      ⟨none, some 10, .mv (.t 5)⟩,
      ⟨none, some 11, .bin .add (.t 10) (.k (.c (.i 1)))⟩,
      ⟨none, some 5, .mv (.t 11)⟩]))))))
 (.seq (.reg [
    ⟨none, some 54, .mv (.t 1)⟩,
    ⟨none, some 4, .mv (.t 54)⟩])
 (.ret)))
theorem h_laws_markBoatS : Has Try.prog n_laws_markBoatS 55 c_laws_markBoatS [.t 4] := ⟨by decide, Try.f219, _, Try.func219, rfl, rfl, by kernel_rfl, by kernel_rfl⟩

def c_laws_FnSailing : SC :=
 .seq (.reg [
    ⟨none, some 2, .mv (.k (.c (.b false)))⟩])
 (.seq (.seq (.reg [
     ⟨none, some 13, .mv (.t 0)⟩,
     ⟨none, some 14, .call n_laws_big [.t 13]⟩])
  (.cond (.t 14)
   (.seq (.reg [
       ⟨none, some 2, .mv (.k (.c (.b true)))⟩])
    (.ret))
   (.skip)))
 (.seq (.reg [
    ⟨none, some 15, .mv (.t 0)⟩,
    ⟨none, some 16, .call n_spec_DrawTrain [.t 15]⟩,
    ⟨none, some 3, .alloc [.c (.b false), .nil 1]⟩,
    ⟨none, none, .stn 2 (.t 3) (.t 16)⟩])
 (.seq (.reg [
    ⟨none, some 17, .mv (.t 0)⟩,
    ⟨none, some 18, .call n_spec_DrawWay [.t 17]⟩,
    ⟨none, some 4, .alloc [.c (.i 0), .c (.i 0)]⟩,
    ⟨none, none, .stn 2 (.t 4) (.t 18)⟩])
 (.seq (.rege [
    ⟨0, false, [], ⟨none, some 20, .bld [.c (.i 0), .c (.i 0)] [(0, 1, .k (.c (.i 0))), (1, 1, .k (.c (.i 0)))]⟩⟩,
    ⟨0, false, [], ⟨none, some 21, .bld [.c (.i 0), .c (.i 0)] [(0, 1, .k (.c (.i 500))), (1, 1, .k (.c (.i 500000)))]⟩⟩,
    ⟨1, false, [], ⟨none, some 22, .bsl 2 [.t 20, .t 21]⟩⟩,
    ⟨0, false, [], ⟨none, some 23, .fld 1 (.t 4)⟩⟩,
    ⟨0, false, [], ⟨none, some 24, .ld1 (.t 23)⟩⟩,
    ⟨0, false, [], ⟨none, some 25, .mv (.t 0)⟩⟩,
    ⟨0, false, [], ⟨none, some 26, .call n_laws_at [.t 25, .k (.c (.i 0))]⟩⟩,
    ⟨0, false, [], ⟨none, some 27, .bin .rem (.t 26) (.k (.c (.i 60)))⟩⟩,
    ⟨0, false, [], ⟨none, some 28, .bin .add (.t 24) (.t 27)⟩⟩,
    ⟨0, false, [], ⟨none, some 29, .call n_spec_NewReach [.t 22, .t 28, .k (.c (.i 0))]⟩⟩,
    ⟨0, false, [], ⟨none, some 19, .mv (.t 29)⟩⟩,
    ⟨0, false, [], ⟨none, some 30, .ext 0 (.t 19)⟩⟩,
    ⟨0, true, [], ⟨none, some 31, .ext 1 (.t 19)⟩⟩,
    ⟨1, false, [], ⟨none, some 5, .alloc [.nil 2, .c (.i 0), .nil 1]⟩⟩,
    ⟨2, false, [12], ⟨none, none, .stn 3 (.t 5) (.t 30)⟩⟩,
    ⟨0, false, [], ⟨none, some 6, .mv (.t 31)⟩⟩])
 (.seq (.rege [
    ⟨0, false, [], ⟨none, some 32, .ldn 2 (.t 3)⟩⟩,
    ⟨0, false, [], ⟨none, some 33, .mv (.t 0)⟩⟩,
    ⟨0, false, [], ⟨none, some 34, .call n_laws_at [.t 33, .k (.c (.i 1))]⟩⟩,
    ⟨0, false, [], ⟨none, some 35, .fld 0 (.t 4)⟩⟩,
    ⟨0, false, [], ⟨none, some 36, .ld1 (.t 35)⟩⟩,
    ⟨0, false, [], ⟨none, some 37, .bin .add (.t 36) (.k (.c (.i 1)))⟩⟩,
    ⟨0, false, [], ⟨none, some 38, .bin .rem (.t 34) (.t 37)⟩⟩,
    ⟨0, false, [], ⟨none, some 39, .bld [.c (.b false), .nil 1, .c (.i 0)] [(0, 2, .t 32), (2, 1, .t 38)]⟩⟩,
    ⟨1, false, [], ⟨none, some 7, .alloc [.c (.b false), .nil 1, .c (.i 0)]⟩⟩,
    ⟨2, false, [], ⟨none, none, .stn 3 (.t 7) (.t 39)⟩⟩])
 (.seq (.reg [
    ⟨none, some 40, .ldn 3 (.t 7)⟩,
    ⟨none, some 41, .ldn 2 (.t 4)⟩,
    ⟨none, some 42, .ldn 3 (.t 5)⟩,
    ⟨none, some 43, .call n_impl_TimeTo [.t 40, .t 41, .t 42]⟩,
    ⟨none, some 8, .mv (.t 43)⟩])
 (.seq (.regq [
    ⟨none, some 44, .ldn 2 (.t 4)⟩,
    ⟨none, some 45, .ldn 3 (.t 5)⟩,
    ⟨none, some 46, .call n_impl_DepthIn [.t 44, .t 45]⟩,
    ⟨none, some 47, .ldn 2 (.t 3)⟩,
    ⟨none, some 48, .call n_spec_DraughtOf [.t 47]⟩,
    ⟨none, some 49, .bin .geq (.t 46) (.t 48)⟩,
    ⟨none, some 9, .mv (.t 49)⟩])
 (.seq (.reg [
    ⟨none, some 50, .ldn 3 (.t 7)⟩,
    ⟨none, some 51, .bsl 3 [.t 50]⟩,
    ⟨none, some 52, .ldn 2 (.t 4)⟩,
    ⟨none, some 53, .ldn 3 (.t 5)⟩,
    ⟨none, some 54, .call n_impl_GroundedOf [.t 51, .t 52, .t 53]⟩,
    ⟨none, some 10, .mv (.t 54)⟩])
 (.seq (.seq (.reg [
     ⟨none, some 11, .mv (.k (.c (.i 0)))⟩])
  (.block 0 (.loop (.seq (.seq (.reg [
        ⟨none, some 55, .mv (.t 11)⟩,
        ⟨none, some 56, .mv (.t 8)⟩,
        ⟨none, some 57, .bin .lss (.t 55) (.t 56)⟩])
     (.cond (.t 57)
      (.skip)
      (.exit 0)))
    (.seq (.block 1 (.seq (.seq (.reg [
          ⟨none, some 60, .ldn 3 (.t 7)⟩,
          ⟨none, some 61, .ldn 2 (.t 4)⟩,
          ⟨none, some 62, .call n_impl_AtEnd [.t 60, .t 61]⟩])
       (.cond (.t 62)
        (.seq (.reg [
            ⟨none, some 2, .mv (.k (.c (.b false)))⟩])
         (.ret))
        (.skip)))
      (.seq (.reg [
         ⟨none, some 63, .ldn 3 (.t 7)⟩,
         ⟨none, some 64, .ldn 2 (.t 4)⟩,
         ⟨none, some 65, .ldn 3 (.t 5)⟩,
         ⟨none, some 66, .call n_impl_MoveOne [.t 63, .t 64, .t 65]⟩,
         ⟨none, none, .stn 3 (.t 7) (.t 66)⟩])
      (.seq (.reg [
         ⟨none, some 67, .ldn 3 (.t 7)⟩,
         ⟨none, some 68, .ldn 2 (.t 4)⟩,
         ⟨none, some 69, .call n_impl_MoverOk [.t 67, .t 68]⟩,
         ⟨none, some 70, .not (.t 69)⟩])
      (.cond (.t 70)
       (.seq (.reg [
           ⟨none, some 2, .mv (.k (.c (.b false)))⟩])
        (.ret))
       (.skip))))))
    (.reg [
      ⟨none, some 58, .mv (.t 11)⟩,
      ⟨none, some 59, .bin .add (.t 58) (.k (.c (.i 1)))⟩,
      ⟨none, some 11, .mv (.t 59)⟩]))))))
 (.seq (.reg [
    ⟨none, some 71, .ldn 3 (.t 7)⟩,
    ⟨none, some 72, .ldn 2 (.t 4)⟩,
    ⟨none, some 73, .ldn 3 (.t 5)⟩,
    ⟨none, some 74, .call n_impl_MoveOne [.t 71, .t 72, .t 73]⟩,
    ⟨none, some 12, .alloc [.c (.b false), .nil 1, .c (.i 0)]⟩,
    ⟨none, none, .stn 3 (.t 12) (.t 74)⟩])
 (.seq (.regq [
    ⟨none, some 75, .mv (.t 8)⟩,
    ⟨none, some 76, .bin .lss (.t 75) (.k (.c (.i 0)))⟩,
    ⟨none, some 77, .mv (.t 9)⟩,
    ⟨none, some 78, .not (.t 77)⟩,
    ⟨none, some 79, .mv (.t 78)⟩,
    ⟨some (79, true), some 80, .ldn 3 (.t 7)⟩,
    ⟨some (79, true), some 81, .ldn 2 (.t 4)⟩,
    ⟨some (79, true), some 82, .call n_impl_AtEnd [.t 80, .t 81]⟩,
    ⟨some (79, true), some 83, .not (.t 82)⟩,
    ⟨none, some 84, .pick (.t 79) (.t 83) (.k (.c (.b false)))⟩,
    ⟨none, some 85, .beq false (.t 76) (.t 84)⟩,
    ⟨none, some 86, .mv (.t 85)⟩,
    ⟨some (86, true), some 87, .mv (.t 8)⟩,
    ⟨some (86, true), some 88, .bin .lss (.t 87) (.k (.c (.i 0)))⟩,
    ⟨some (86, true), some 89, .mv (.t 88)⟩,
    ⟨some (89, false), some 90, .ldn 3 (.t 7)⟩,
    ⟨some (89, false), some 91, .ldn 2 (.t 4)⟩,
    ⟨some (89, false), some 92, .call n_impl_AtEnd [.t 90, .t 91]⟩,
    ⟨some (86, true), some 93, .pick (.t 89) (.k (.c (.b true))) (.t 92)⟩,
    ⟨none, some 94, .pick (.t 86) (.t 93) (.k (.c (.b false)))⟩,
    ⟨none, some 95, .mv (.t 94)⟩,
    ⟨some (95, true), some 96, .mv (.t 9)⟩,
    ⟨some (95, true), some 97, .mv (.t 96)⟩,
    ⟨some (97, false), some 98, .fld 2 (.t 12)⟩,
    ⟨some (97, false), some 99, .ld1 (.t 98)⟩,
    ⟨some (97, false), some 100, .fld 2 (.t 7)⟩,
    ⟨some (97, false), some 101, .ld1 (.t 100)⟩,
    ⟨some (97, false), some 102, .bin .eql (.t 99) (.t 101)⟩,
    ⟨some (95, true), some 103, .pick (.t 97) (.k (.c (.b true))) (.t 102)⟩,
    ⟨none, some 104, .pick (.t 95) (.t 103) (.k (.c (.b false)))⟩,
    ⟨none, some 105, .mv (.t 104)⟩,
    ⟨some (105, true), some 106, .mv (.t 10)⟩,
    ⟨some (105, true), some 107, .len (.t 106)⟩,
    ⟨some (105, true), some 108, .bin .eql (.t 107) (.k (.c (.i 1)))⟩,
    ⟨some (105, true), some 109, .mv (.t 9)⟩,
    ⟨some (105, true), some 110, .not (.t 109)⟩,
    ⟨some (105, true), some 111, .beq false (.t 108) (.t 110)⟩,
    ⟨none, some 112, .pick (.t 105) (.t 111) (.k (.c (.b false)))⟩,
    ⟨none, some 113, .mv (.t 112)⟩,
    ⟨some (113, true), some 114, .ldn 2 (.t 3)⟩,
    ⟨some (113, true), some 115, .call n_impl_PaceOf [.t 114, .k (.c (.i 100))]⟩,
    ⟨some (113, true), some 116, .ldn 2 (.t 3)⟩,
    ⟨some (113, true), some 117, .call n_spec_SpeedOf [.t 116]⟩,
    ⟨some (113, true), some 118, .bin .eql (.t 115) (.t 117)⟩,
    ⟨none, some 119, .pick (.t 113) (.t 118) (.k (.c (.b false)))⟩,
    ⟨none, some 2, .mv (.t 119)⟩])
 (.ret))))))))))))
theorem h_laws_FnSailing : Has Try.prog n_laws_FnSailing 120 c_laws_FnSailing [.t 2] := ⟨by decide, Try.f17, _, Try.func17, rfl, rfl, by kernel_rfl, by kernel_rfl⟩

def c_spec_DrawWay : SC :=
 .seq (.reg [
    ⟨none, some 2, .alloc [.c (.i 0), .c (.i 0)]⟩])
 (.seq (.reg [
    ⟨none, some 3, .mv (.t 0)⟩,
    ⟨none, some 4, .call n_spec_l01New [.t 3]⟩,
    ⟨none, some 5, .call n_spec_l07Way [.t 4]⟩,
    ⟨none, none, .stn 2 (.t 2) (.t 5)⟩])
 (.ret))
theorem h_spec_DrawWay : Has Try.prog n_spec_DrawWay 6 c_spec_DrawWay [.cl 2 2] := ⟨by decide, Try.f81, _, Try.func81, rfl, rfl, by kernel_rfl, by kernel_rfl⟩

def c_spec_NewReach : SC :=
 .seq (.reg [
    ⟨none, some 6, .alloc [.nil 2, .c (.i 0), .nil 1]⟩,
    ⟨none, some 7, .mv (.k (.c (.b false)))⟩])
 (.seq (.seq (.reg [
     ⟨none, some 9, .mv (.t 2)⟩,
     ⟨none, some 10, .call n_spec_l01In [.t 9, .k (.c (.i 0)), .k (.c (.i 12))]⟩,
     ⟨none, some 11, .not (.t 10)⟩])
  (.cond (.t 11)
   (.seq (.reg [
       ⟨none, some 12, .bld [.nil 2, .c (.i 0), .nil 1] []⟩,
       ⟨none, none, .stn 3 (.t 6) (.t 12)⟩,
       ⟨none, some 7, .mv (.k (.c (.b false)))⟩])
    (.ret))
   (.skip)))
 (.seq (.rege [
    ⟨1, false, [], ⟨none, some 13, .bsl 2 []⟩⟩,
    ⟨0, false, [], ⟨none, some 14, .mv (.t 0)⟩⟩,
    ⟨2, true, [], ⟨none, some 15, .app 2 16 (.t 13) (.t 14)⟩⟩,
    ⟨0, false, [2], ⟨none, some 16, .mv (.t 0)⟩⟩,
    ⟨0, false, [2], ⟨none, some 17, .mv (.t 1)⟩⟩,
    ⟨0, false, [], ⟨none, some 18, .call n_spec_ValueAt [.t 16, .t 17]⟩⟩,
    ⟨0, false, [2], ⟨none, some 19, .mv (.t 2)⟩⟩,
    ⟨1, false, [2], ⟨none, some 20, .mks 1 8 [.i 0] (.t 19) (.t 19)⟩⟩,
    ⟨0, false, [], ⟨none, some 21, .bld [.nil 2, .c (.i 0), .nil 1] [(0, 1, .t 15), (1, 1, .t 18), (2, 1, .t 20)]⟩⟩,
    ⟨1, false, [2], ⟨none, some 8, .alloc [.nil 2, .c (.i 0), .nil 1]⟩⟩,
    ⟨2, false, [], ⟨none, none, .stn 3 (.t 8) (.t 21)⟩⟩])
 (.seq (.seq (.reg [
     ⟨none, some 22, .ldn 3 (.t 8)⟩,
     ⟨none, some 23, .call n_spec_ReachOk [.t 22]⟩,
     ⟨none, some 24, .not (.t 23)⟩])
  (.cond (.t 24)
   (.seq (.reg [
       ⟨none, some 25, .bld [.nil 2, .c (.i 0), .nil 1] []⟩,
       ⟨none, none, .stn 3 (.t 6) (.t 25)⟩,
       ⟨none, some 7, .mv (.k (.c (.b false)))⟩])
    (.ret))
   (.skip)))
 (.seq (.reg [
    ⟨none, some 26, .ldn 3 (.t 8)⟩,
    ⟨none, none, .stn 3 (.t 6) (.t 26)⟩,
    ⟨none, some 7, .mv (.k (.c (.b true)))⟩])
 (.ret)))))
theorem h_spec_NewReach : Has Try.prog n_spec_NewReach 27 c_spec_NewReach [.cl 6 3, .t 7] := ⟨by decide, Try.f82, _, Try.func82, rfl, rfl, by kernel_rfl, by kernel_rfl⟩

def c_impl_TimeTo : SC :=
 .seq (.reg [
    ⟨none, some 3, .box 3 (.t 0)⟩,
    ⟨none, some 4, .box 2 (.t 1)⟩,
    ⟨none, some 5, .box 3 (.t 2)⟩,
    ⟨none, some 6, .mv (.k (.c (.i 0)))⟩])
 (.seq (.seq (.reg [
     ⟨none, some 9, .ldn 3 (.t 3)⟩,
     ⟨none, some 10, .ldn 2 (.t 4)⟩,
     ⟨none, some 11, .call n_impl_MoverOk [.t 9, .t 10]⟩,
     ⟨none, some 12, .not (.t 11)⟩,
     ⟨none, some 13, .mv (.t 12)⟩,
     ⟨some (13, false), some 14, .ldn 3 (.t 5)⟩,
     ⟨some (13, false), some 15, .call n_impl_ReachOk [.t 14]⟩,
     ⟨some (13, false), some 16, .not (.t 15)⟩,
     ⟨none, some 17, .pick (.t 13) (.k (.c (.b true))) (.t 16)⟩])
  (.cond (.t 17)
   (.seq (.reg [
       ⟨none, some 6, .mv (.k (.c (.i (-1))))⟩])
    (.ret))
   (.skip)))
 (.seq (.reg [
    ⟨none, some 18, .fld 2 (.t 3)⟩,
    ⟨none, some 19, .ld1 (.t 18)⟩,
    ⟨none, some 7, .mv (.t 19)⟩])
 (.seq (.seq (.reg [
     ⟨none, some 20, .fld 0 (.t 3)⟩,
     ⟨none, some 21, .fld 0 (.t 20)⟩,
     ⟨none, some 22, .ld1 (.t 21)⟩,
     ⟨none, some 23, .not (.t 22)⟩])
  (.cond (.t 23)
   (.reg [
      ⟨none, some 24, .fld 0 (.t 4)⟩,
      ⟨none, some 25, .ld1 (.t 24)⟩,
      ⟨none, some 26, .fld 2 (.t 3)⟩,
      ⟨none, some 27, .ld1 (.t 26)⟩,
      ⟨none, some 28, .bin .sub (.t 25) (.t 27)⟩,
      ⟨none, some 7, .mv (.t 28)⟩])
   (.skip)))
 (.seq (.seq (.reg [
     ⟨none, some 29, .mv (.t 7)⟩,
     ⟨none, some 30, .bin .eql (.t 29) (.k (.c (.i 0)))⟩])
  (.cond (.t 30)
   (.seq (.reg [
       ⟨none, some 6, .mv (.k (.c (.i 0)))⟩])
    (.ret))
   (.skip)))
 (.seq (.regq [
    ⟨none, some 31, .fld 0 (.t 3)⟩,
    ⟨none, some 32, .ldn 2 (.t 31)⟩,
    ⟨none, some 33, .ldn 2 (.t 4)⟩,
    ⟨none, some 34, .ldn 3 (.t 5)⟩,
    ⟨none, some 35, .call n_impl_DepthIn [.t 33, .t 34]⟩,
    ⟨none, some 36, .call n_impl_PaceOf [.t 32, .t 35]⟩,
    ⟨none, some 8, .mv (.t 36)⟩])
 (.seq (.seq (.reg [
     ⟨none, some 37, .mv (.t 8)⟩,
     ⟨none, some 38, .bin .eql (.t 37) (.k (.c (.i 0)))⟩])
  (.cond (.t 38)
   (.seq (.reg [
       ⟨none, some 6, .mv (.k (.c (.i (-1))))⟩])
    (.ret))
   (.skip)))
 (.seq (.reg [
    ⟨none, some 39, .mv (.t 7)⟩,
    ⟨none, some 40, .mv (.t 8)⟩,
    ⟨none, some 41, .bin .add (.t 39) (.t 40)⟩,
    ⟨none, some 42, .bin .sub (.t 41) (.k (.c (.i 1)))⟩,
    ⟨none, some 43, .mv (.t 8)⟩,
    ⟨none, some 44, .bin .quo (.t 42) (.t 43)⟩,
    ⟨none, some 6, .mv (.t 44)⟩])
 (.ret))))))))
theorem h_impl_TimeTo : Has Try.prog n_impl_TimeTo 45 c_impl_TimeTo [.t 6] := ⟨by decide, Try.f84, _, Try.func84, rfl, rfl, by kernel_rfl, by kernel_rfl⟩

def c_impl_GroundedOf : SC :=
 .seq (.reg [
    ⟨none, some 4, .box 2 (.t 1)⟩,
    ⟨none, some 5, .box 3 (.t 2)⟩,
    ⟨none, some 6, .mv (.k (.nil 1))⟩])
 (.seq (.seq (.reg [
     ⟨none, some 11, .ldn 2 (.t 4)⟩,
     ⟨none, some 12, .call n_impl_WayOk [.t 11]⟩,
     ⟨none, some 13, .not (.t 12)⟩,
     ⟨none, some 14, .mv (.t 13)⟩,
     ⟨some (14, false), some 15, .ldn 3 (.t 5)⟩,
     ⟨some (14, false), some 16, .call n_impl_ReachOk [.t 15]⟩,
     ⟨some (14, false), some 17, .not (.t 16)⟩,
     ⟨none, some 18, .pick (.t 14) (.k (.c (.b true))) (.t 17)⟩])
  (.cond (.t 18)
   (.seq (.reg [
       ⟨none, some 6, .mv (.k (.nil 1))⟩])
    (.ret))
   (.skip)))
 (.seq (.reg [
    ⟨none, some 19, .ldn 2 (.t 4)⟩,
    ⟨none, some 20, .ldn 3 (.t 5)⟩,
    ⟨none, some 21, .call n_impl_DepthIn [.t 19, .t 20]⟩,
    ⟨none, some 7, .mv (.t 21)⟩])
 (.seq (.reg [
    ⟨none, some 8, .mv (.k (.nil 1))⟩])
 (.seq (.seq (.reg [
     ⟨none, some 22, .mv (.t 0)⟩,
     ⟨none, some 23, .len (.t 22)⟩,
     ⟨none, some 24, .mv (.k (.c (.i 0)))⟩])
  (.block 0 (.loop (.seq (.reg [
       ⟨none, some 25, .bin .lss (.t 24) (.t 23)⟩])
    (.seq (.cond (.t 25)
      (.skip)
      (.exit 0))
    (.seq (.block 1 (.seq (.reg [
         ⟨none, some 26, .idx 3 (.t 22) (.t 24)⟩,
         ⟨none, some 27, .ldn 3 (.t 26)⟩,
         ⟨none, some 10, .alloc [.c (.b false), .nil 1, .c (.i 0)]⟩,
         ⟨none, none, .stn 3 (.t 10) (.t 27)⟩])
      (.seq (.reg [
         ⟨none, some 28, .ldn 3 (.t 10)⟩,
         ⟨none, some 29, .ldn 2 (.t 4)⟩,
         ⟨none, some 30, .call n_impl_MoverOk [.t 28, .t 29]⟩,
         ⟨none, some 31, .mv (.t 30)⟩,
         ⟨some (31, true), some 32, .fld 0 (.t 10)⟩,
         ⟨some (31, true), some 33, .ldn 2 (.t 32)⟩,
         ⟨some (31, true), some 34, .mv (.t 7)⟩,
         ⟨some (31, true), some 35, .call n_impl_PaceOf [.t 33, .t 34]⟩,
         ⟨some (31, true), some 36, .bin .eql (.t 35) (.k (.c (.i 0)))⟩,
         ⟨none, some 37, .pick (.t 31) (.t 36) (.k (.c (.b false)))⟩])
      (.cond (.t 37)
       (.reg [
          ⟨none, some 38, .mv (.t 8)⟩,
          ⟨none, some 39, .fld 0 (.t 10)⟩,
          ⟨none, some 40, .ldn 2 (.t 39)⟩,
          ⟨none, some 41, .call n_impl_IdsOf [.t 40]⟩,
          ⟨none, some 42, .idx 1 (.t 41) (.k (.c (.i 0)))⟩,
          ⟨none, some 43, .ld1 (.t 42)⟩,
          ⟨none, some 44, .bsl 1 [.t 43]⟩,
          ⟨none, some 45, .app 1 8 (.t 38) (.t 44)⟩,
          ⟨none, some 8, .mv (.t 45)⟩])
       (.skip)))))
    (.reg [
      ⟨none, some 46, .bin .add (.t 24) (.k (.c (.i 1)))⟩,
      ⟨none, some 24, .mv (.t 46)⟩])))))))
 (.seq (.reg [
    ⟨none, some 47, .mv (.t 8)⟩,
    ⟨none, some 6, .mv (.t 47)⟩])
 (.ret))))))
theorem h_impl_GroundedOf : Has Try.prog n_impl_GroundedOf 48 c_impl_GroundedOf [.t 6] := ⟨by decide, Try.f86, _, Try.func86, rfl, rfl, by kernel_rfl, by kernel_rfl⟩

def c_impl_MoveOne : SC :=
 .seq (.reg [
    ⟨none, some 3, .box 3 (.t 0)⟩,
    ⟨none, some 4, .box 2 (.t 1)⟩,
    ⟨none, some 5, .box 3 (.t 2)⟩,
    ⟨none, some 6, .alloc [.c (.b false), .nil 1, .c (.i 0)]⟩])
 (.seq (.reg [
    ⟨none, some 8, .ldn 3 (.t 3)⟩,
    ⟨none, some 9, .ldn 2 (.t 4)⟩,
    ⟨none, some 10, .ldn 3 (.t 5)⟩,
    ⟨none, some 11, .call n_impl_moved [.t 8, .t 9, .t 10]⟩,
    ⟨none, some 7, .alloc [.c (.b false), .nil 1, .c (.i 0)]⟩,
    ⟨none, none, .stn 3 (.t 7) (.t 11)⟩])
 (.seq (.reg [
    ⟨none, some 12, .fld 0 (.t 3)⟩,
    ⟨none, some 13, .ldn 2 (.t 12)⟩,
    ⟨none, some 14, .call n_impl_copyTrain [.t 13]⟩,
    ⟨none, some 15, .fld 0 (.t 7)⟩,
    ⟨none, none, .stn 2 (.t 15) (.t 14)⟩])
 (.seq (.reg [
    ⟨none, some 16, .ldn 3 (.t 7)⟩,
    ⟨none, none, .stn 3 (.t 6) (.t 16)⟩])
 (.ret))))
theorem h_impl_MoveOne : Has Try.prog n_impl_MoveOne 17 c_impl_MoveOne [.cl 6 3] := ⟨by decide, Try.f87, _, Try.func87, rfl, rfl, by kernel_rfl, by kernel_rfl⟩

def c_spec_l07Way : SC :=
 .seq (.reg [
    ⟨none, some 2, .alloc [.c (.i 0), .c (.i 0)]⟩])
 (.seq (.reg [
    ⟨none, some 3, .mv (.t 0)⟩,
    ⟨none, some 4, .bsl 1 [.k (.c (.i 1)), .k (.c (.i 10)), .k (.c (.i 50)), .k (.c (.i 200))]⟩,
    ⟨none, some 5, .call n_spec_l01PickInt [.t 3, .t 4]⟩,
    ⟨none, some 6, .mv (.t 0)⟩,
    ⟨none, some 7, .call n_spec_l01Below [.t 6, .k (.c (.i 60))]⟩,
    ⟨none, some 8, .bld [.c (.i 0), .c (.i 0)] [(0, 1, .t 5), (1, 1, .t 7)]⟩,
    ⟨none, none, .stn 2 (.t 2) (.t 8)⟩])
 (.ret))
theorem h_spec_l07Way : Has Try.prog n_spec_l07Way 9 c_spec_l07Way [.cl 2 2] := ⟨by decide, Try.f152, _, Try.func152, rfl, rfl, by kernel_rfl, by kernel_rfl⟩

def c_impl_moved : SC :=
 .seq (.reg [
    ⟨none, some 3, .box 3 (.t 0)⟩,
    ⟨none, some 4, .box 2 (.t 1)⟩,
    ⟨none, some 5, .box 3 (.t 2)⟩,
    ⟨none, some 6, .alloc [.c (.b false), .nil 1, .c (.i 0)]⟩])
 (.seq (.seq (.reg [
     ⟨none, some 8, .ldn 3 (.t 3)⟩,
     ⟨none, some 9, .ldn 2 (.t 4)⟩,
     ⟨none, some 10, .call n_impl_MoverOk [.t 8, .t 9]⟩,
     ⟨none, some 11, .not (.t 10)⟩,
     ⟨none, some 12, .mv (.t 11)⟩,
     ⟨some (12, false), some 13, .ldn 3 (.t 5)⟩,
     ⟨some (12, false), some 14, .call n_impl_ReachOk [.t 13]⟩,
     ⟨some (12, false), some 15, .not (.t 14)⟩,
     ⟨none, some 16, .pick (.t 12) (.k (.c (.b true))) (.t 15)⟩])
  (.cond (.t 16)
   (.seq (.reg [
       ⟨none, some 17, .ldn 3 (.t 3)⟩,
       ⟨none, none, .stn 3 (.t 6) (.t 17)⟩])
    (.ret))
   (.skip)))
 (.seq (.regq [
    ⟨none, some 18, .fld 0 (.t 3)⟩,
    ⟨none, some 19, .ldn 2 (.t 18)⟩,
    ⟨none, some 20, .ldn 2 (.t 4)⟩,
    ⟨none, some 21, .ldn 3 (.t 5)⟩,
    ⟨none, some 22, .call n_impl_DepthIn [.t 20, .t 21]⟩,
    ⟨none, some 23, .call n_impl_PaceOf [.t 19, .t 22]⟩,
    ⟨none, some 7, .mv (.t 23)⟩])
 (.seq (.seq (.reg [
     ⟨none, some 24, .fld 0 (.t 3)⟩,
     ⟨none, some 25, .fld 0 (.t 24)⟩,
     ⟨none, some 26, .ld1 (.t 25)⟩])
  (.cond (.t 26)
   (.reg [
      ⟨none, some 27, .fld 2 (.t 3)⟩,
      ⟨none, some 28, .ld1 (.t 27)⟩,
      ⟨none, some 29, .mv (.t 7)⟩,
      ⟨none, some 30, .bin .sub (.t 28) (.t 29)⟩,
      ⟨none, some 31, .mx [.k (.c (.i 0)), .t 30]⟩,
      ⟨none, some 32, .fld 2 (.t 3)⟩,
      ⟨none, none, .st1 (.t 32) (.t 31)⟩])
   (.reg [
      ⟨none, some 33, .fld 0 (.t 4)⟩,
      ⟨none, some 34, .ld1 (.t 33)⟩,
      ⟨none, some 35, .fld 2 (.t 3)⟩,
      ⟨none, some 36, .ld1 (.t 35)⟩,
      ⟨none, some 37, .mv (.t 7)⟩,
      ⟨none, some 38, .bin .add (.t 36) (.t 37)⟩,
      ⟨none, some 39, .mn [.t 34, .t 38]⟩,
      ⟨none, some 40, .fld 2 (.t 3)⟩,
      ⟨none, none, .st1 (.t 40) (.t 39)⟩])))
 (.seq (.reg [
    ⟨none, some 41, .ldn 3 (.t 3)⟩,
    ⟨none, none, .stn 3 (.t 6) (.t 41)⟩])
 (.ret)))))
theorem h_impl_moved : Has Try.prog n_impl_moved 42 c_impl_moved [.cl 6 3] := ⟨by decide, Try.f156, _, Try.func156, rfl, rfl, by kernel_rfl, by kernel_rfl⟩

def c_impl_copyTrain : SC :=
 .seq (.reg [
    ⟨none, some 1, .box 2 (.t 0)⟩,
    ⟨none, some 2, .alloc [.c (.b false), .nil 1]⟩])
 (.seq (.rege [
    ⟨0, false, [], ⟨none, some 3, .fld 0 (.t 1)⟩⟩,
    ⟨0, false, [], ⟨none, some 4, .ld1 (.t 3)⟩⟩,
    ⟨0, false, [], ⟨none, some 5, .fld 1 (.t 1)⟩⟩,
    ⟨0, false, [], ⟨none, some 6, .ld1 (.t 5)⟩⟩,
    ⟨0, false, [], ⟨none, some 7, .call n_impl_copyRows [.t 6]⟩⟩,
    ⟨0, false, [], ⟨none, some 8, .bld [.c (.b false), .nil 1] [(0, 1, .t 4), (1, 1, .t 7)]⟩⟩,
    ⟨2, false, [], ⟨none, none, .stn 2 (.t 2) (.t 8)⟩⟩])
 (.ret))
theorem h_impl_copyTrain : Has Try.prog n_impl_copyTrain 9 c_impl_copyTrain [.cl 2 2] := ⟨by decide, Try.f157, _, Try.func157, rfl, rfl, by kernel_rfl, by kernel_rfl⟩

def c_impl_copyRows : SC :=
 .seq (.reg [
    ⟨none, some 2, .mv (.k (.nil 1))⟩])
 (.seq (.reg [
    ⟨none, some 3, .mv (.k (.nil 1))⟩])
 (.seq (.seq (.reg [
     ⟨none, some 6, .mv (.t 0)⟩,
     ⟨none, some 7, .len (.t 6)⟩,
     ⟨none, some 8, .mv (.k (.c (.i 0)))⟩])
  (.block 0 (.loop (.seq (.reg [
       ⟨none, some 9, .bin .lss (.t 8) (.t 7)⟩])
    (.seq (.cond (.t 9)
      (.skip)
      (.exit 0))
    (.seq (.block 1 (.seq (.reg [
         ⟨none, some 10, .idx 1 (.t 6) (.t 8)⟩,
         ⟨none, some 11, .ld1 (.t 10)⟩,
         ⟨none, some 5, .mv (.t 11)⟩])
      (.reg [
        ⟨none, some 12, .mv (.t 3)⟩,
        ⟨none, some 13, .mv (.t 5)⟩,
        ⟨none, some 14, .call n_slices_Clone___impl_Boat_impl_Boat_ [.t 13]⟩,
        ⟨none, some 15, .bsl 1 [.t 14]⟩,
        ⟨none, some 16, .app 1 24 (.t 12) (.t 15)⟩,
        ⟨none, some 3, .mv (.t 16)⟩])))
    (.reg [
      ⟨none, some 17, .bin .add (.t 8) (.k (.c (.i 1)))⟩,
      ⟨none, some 8, .mv (.t 17)⟩])))))))
 (.seq (.reg [
    ⟨none, some 18, .mv (.t 3)⟩,
    ⟨none, some 2, .mv (.t 18)⟩])
 (.ret))))
theorem h_impl_copyRows : Has Try.prog n_impl_copyRows 19 c_impl_copyRows [.t 2] := ⟨by decide, Try.f216, _, Try.func216, rfl, rfl, by kernel_rfl, by kernel_rfl⟩

def c_slices_Clone___impl_Boat_impl_Boat_ : SC :=
 .seq (.reg [
    ⟨none, some 2, .mv (.k (.nil 6))⟩])
 (.seq (.seq (.reg [
     ⟨none, some 3, .mv (.t 0)⟩,
     ⟨none, some 4, .isn (.t 3)⟩])
  (.cond (.t 4)
   (.seq (.reg [
       ⟨none, some 2, .mv (.k (.nil 6))⟩])
    (.ret))
   (.skip)))
 (.seq (.reg [
    ⟨none, some 5, .bsl 6 []⟩,
    ⟨none, some 6, .mv (.t 0)⟩,
    ⟨none, some 7, .app 6 48 (.t 5) (.t 6)⟩,
    ⟨none, some 2, .mv (.t 7)⟩])
 (.ret)))
theorem h_slices_Clone___impl_Boat_impl_Boat_ : Has Try.prog n_slices_Clone___impl_Boat_impl_Boat_ 8 c_slices_Clone___impl_Boat_impl_Boat_ [.t 2] := ⟨by decide, Try.f233, _, Try.func233, rfl, rfl, by kernel_rfl, by kernel_rfl⟩

def c_laws_FnExactTimeTo : SC :=
 .seq (.reg [
    ⟨none, some 3, .box 3 (.t 0)⟩,
    ⟨none, some 4, .box 2 (.t 1)⟩,
    ⟨none, some 5, .box 3 (.t 2)⟩,
    ⟨none, some 6, .mv (.k (.c (.b false)))⟩])
 (.seq (.reg [
    ⟨none, some 7, .mv (.k (.c (.i 1048576)))⟩])
 (.seq (.reg [
    ⟨none, some 12, .ldn 3 (.t 3)⟩,
    ⟨none, some 13, .mv (.t 7)⟩,
    ⟨none, some 14, .call n_laws_szMover [.t 12, .t 13]⟩,
    ⟨none, some 7, .mv (.t 14)⟩])
 (.seq (.seq (.reg [
     ⟨none, some 15, .mv (.t 7)⟩,
     ⟨none, some 16, .bin .lss (.t 15) (.k (.c (.i 0)))⟩])
  (.cond (.t 16)
   (.seq (.reg [
       ⟨none, some 6, .mv (.k (.c (.b true)))⟩])
    (.ret))
   (.skip)))
 (.seq (.reg [
    ⟨none, some 17, .ldn 3 (.t 5)⟩,
    ⟨none, some 18, .mv (.t 7)⟩,
    ⟨none, some 19, .call n_laws_szReach [.t 17, .t 18]⟩,
    ⟨none, some 7, .mv (.t 19)⟩])
 (.seq (.seq (.reg [
     ⟨none, some 20, .mv (.t 7)⟩,
     ⟨none, some 21, .bin .lss (.t 20) (.k (.c (.i 0)))⟩])
  (.cond (.t 21)
   (.seq (.reg [
       ⟨none, some 6, .mv (.k (.c (.b true)))⟩])
    (.ret))
   (.skip)))
 (.seq (.regq [
    ⟨none, some 22, .ldn 3 (.t 3)⟩,
    ⟨none, some 23, .call n_laws_toMover [.t 22]⟩,
    ⟨none, some 24, .ldn 2 (.t 4)⟩,
    ⟨none, some 25, .call n_laws_toWay [.t 24]⟩,
    ⟨none, some 26, .ldn 3 (.t 5)⟩,
    ⟨none, some 27, .call n_laws_toReach [.t 26]⟩,
    ⟨none, some 28, .call n_spec_TimeTo [.t 23, .t 25, .t 27]⟩,
    ⟨none, some 8, .mv (.t 28)⟩])
 (.seq (.reg [
    ⟨none, some 29, .ldn 3 (.t 3)⟩,
    ⟨none, some 30, .call n_laws_toMover [.t 29]⟩,
    ⟨none, some 9, .alloc [.c (.b false), .nil 1, .c (.i 0)]⟩,
    ⟨none, none, .stn 3 (.t 9) (.t 30)⟩])
 (.seq (.reg [
    ⟨none, some 31, .ldn 3 (.t 5)⟩,
    ⟨none, some 32, .call n_laws_toReach [.t 31]⟩,
    ⟨none, some 10, .alloc [.nil 2, .c (.i 0), .nil 1]⟩,
    ⟨none, none, .stn 3 (.t 10) (.t 32)⟩])
 (.seq (.regq [
    ⟨none, some 33, .ldn 3 (.t 9)⟩,
    ⟨none, some 34, .ldn 2 (.t 4)⟩,
    ⟨none, some 35, .call n_laws_toWay [.t 34]⟩,
    ⟨none, some 36, .ldn 3 (.t 10)⟩,
    ⟨none, some 37, .call n_impl_TimeTo [.t 33, .t 35, .t 36]⟩,
    ⟨none, some 11, .mv (.t 37)⟩])
 (.seq (.seq (.reg [
     ⟨none, some 38, .mv (.t 11)⟩,
     ⟨none, some 39, .mv (.t 8)⟩,
     ⟨none, some 40, .bin .neq (.t 38) (.t 39)⟩])
  (.cond (.t 40)
   (.seq (.reg [
       ⟨none, some 6, .mv (.k (.c (.b false)))⟩])
    (.ret))
   (.skip)))
 (.seq (.seq (.regq [
     ⟨none, some 41, .ldn 3 (.t 9)⟩,
     ⟨none, some 42, .ldn 3 (.t 3)⟩,
     ⟨none, some 43, .call n_laws_toMover [.t 42]⟩,
     ⟨none, some 44, .call n_laws_eqMover [.t 41, .t 43]⟩,
     ⟨none, some 45, .not (.t 44)⟩])
  (.cond (.t 45)
   (.seq (.reg [
       ⟨none, some 6, .mv (.k (.c (.b false)))⟩])
    (.ret))
   (.skip)))
 (.seq (.seq (.regq [
     ⟨none, some 46, .ldn 3 (.t 10)⟩,
     ⟨none, some 47, .ldn 3 (.t 5)⟩,
     ⟨none, some 48, .call n_laws_toReach [.t 47]⟩,
     ⟨none, some 49, .call n_laws_eqReach [.t 46, .t 48]⟩,
     ⟨none, some 50, .not (.t 49)⟩])
  (.cond (.t 50)
   (.seq (.reg [
       ⟨none, some 6, .mv (.k (.c (.b false)))⟩])
    (.ret))
   (.skip)))
 (.seq (.reg [
    ⟨none, some 6, .mv (.k (.c (.b true)))⟩])
 (.ret))))))))))))))
theorem h_laws_FnExactTimeTo : Has Try.prog n_laws_FnExactTimeTo 51 c_laws_FnExactTimeTo [.t 6] := ⟨by decide, Try.f20, _, Try.func20, rfl, rfl, by kernel_rfl, by kernel_rfl⟩

def c_spec_TimeTo : SC :=
 .seq (.reg [
    ⟨none, some 3, .box 3 (.t 0)⟩,
    ⟨none, some 4, .box 2 (.t 1)⟩,
    ⟨none, some 5, .box 3 (.t 2)⟩,
    ⟨none, some 6, .mv (.k (.c (.i 0)))⟩])
 (.seq (.seq (.reg [
     ⟨none, some 9, .ldn 3 (.t 3)⟩,
     ⟨none, some 10, .ldn 2 (.t 4)⟩,
     ⟨none, some 11, .call n_spec_MoverOk [.t 9, .t 10]⟩,
     ⟨none, some 12, .not (.t 11)⟩,
     ⟨none, some 13, .mv (.t 12)⟩,
     ⟨some (13, false), some 14, .ldn 3 (.t 5)⟩,
     ⟨some (13, false), some 15, .call n_spec_ReachOk [.t 14]⟩,
     ⟨some (13, false), some 16, .not (.t 15)⟩,
     ⟨none, some 17, .pick (.t 13) (.k (.c (.b true))) (.t 16)⟩])
  (.cond (.t 17)
   (.seq (.reg [
       ⟨none, some 6, .mv (.k (.c (.i (-1))))⟩])
    (.ret))
   (.skip)))
 (.seq (.reg [
    ⟨none, some 18, .fld 0 (.t 4)⟩,
    ⟨none, some 19, .ld1 (.t 18)⟩,
    ⟨none, some 20, .fld 2 (.t 3)⟩,
    ⟨none, some 21, .ld1 (.t 20)⟩,
    ⟨none, some 22, .bin .sub (.t 19) (.t 21)⟩,
    ⟨none, some 7, .mv (.t 22)⟩])
 (.seq (.seq (.reg [
     ⟨none, some 23, .fld 0 (.t 3)⟩,
     ⟨none, some 24, .fld 0 (.t 23)⟩,
     ⟨none, some 25, .ld1 (.t 24)⟩])
  (.cond (.t 25)
   (.reg [
      ⟨none, some 26, .fld 2 (.t 3)⟩,
      ⟨none, some 27, .ld1 (.t 26)⟩,
      ⟨none, some 7, .mv (.t 27)⟩])
   (.skip)))
 (.seq (.regq [
    ⟨none, some 28, .fld 0 (.t 3)⟩,
    ⟨none, some 29, .ldn 2 (.t 28)⟩,
    ⟨none, some 30, .ldn 2 (.t 4)⟩,
    ⟨none, some 31, .ldn 3 (.t 5)⟩,
    ⟨none, some 32, .call n_spec_DepthIn [.t 30, .t 31]⟩,
    ⟨none, some 33, .call n_spec_PaceOf [.t 29, .t 32]⟩,
    ⟨none, some 8, .mv (.t 33)⟩])
 (.seq (.seq (.reg [
     ⟨none, some 34, .mv (.t 7)⟩,
     ⟨none, some 35, .bin .eql (.t 34) (.k (.c (.i 0)))⟩])
  (.cond (.t 35)
   (.seq (.reg [
       ⟨none, some 6, .mv (.k (.c (.i 0)))⟩])
    (.ret))
   (.skip)))
 (.seq (.seq (.reg [
     ⟨none, some 36, .mv (.t 8)⟩,
     ⟨none, some 37, .bin .eql (.t 36) (.k (.c (.i 0)))⟩])
  (.cond (.t 37)
   (.seq (.reg [
       ⟨none, some 6, .mv (.k (.c (.i (-1))))⟩])
    (.ret))
   (.skip)))
 (.seq (.reg [
    ⟨none, some 38, .mv (.t 7)⟩,
    ⟨none, some 39, .mv (.t 8)⟩,
    ⟨none, some 40, .bin .add (.t 38) (.t 39)⟩,
    ⟨none, some 41, .bin .sub (.t 40) (.k (.c (.i 1)))⟩,
    ⟨none, some 42, .mv (.t 8)⟩,
    ⟨none, some 43, .bin .quo (.t 41) (.t 42)⟩,
    ⟨none, some 6, .mv (.t 43)⟩])
 (.ret))))))))
theorem h_spec_TimeTo : Has Try.prog n_spec_TimeTo 44 c_spec_TimeTo [.t 6] := ⟨by decide, Try.f97, _, Try.func97, rfl, rfl, by kernel_rfl, by kernel_rfl⟩

def c_laws_FnExactWorkOk : SC :=
 .seq (.reg [
    ⟨none, some 1, .box 22 (.t 0)⟩,
    ⟨none, some 2, .mv (.k (.c (.b false)))⟩])
 (.seq (.reg [
    ⟨none, some 3, .mv (.k (.c (.i 1048576)))⟩])
 (.seq (.reg [
    ⟨none, some 7, .ldn 22 (.t 1)⟩,
    ⟨none, some 8, .mv (.t 3)⟩,
    ⟨none, some 9, .call n_laws_szWork [.t 7, .t 8]⟩,
    ⟨none, some 3, .mv (.t 9)⟩])
 (.seq (.seq (.reg [
     ⟨none, some 10, .mv (.t 3)⟩,
     ⟨none, some 11, .bin .lss (.t 10) (.k (.c (.i 0)))⟩])
  (.cond (.t 11)
   (.seq (.reg [
       ⟨none, some 2, .mv (.k (.c (.b true)))⟩])
    (.ret))
   (.skip)))
 (.seq (.reg [
    ⟨none, some 12, .ldn 22 (.t 1)⟩,
    ⟨none, some 13, .call n_laws_toWork [.t 12]⟩,
    ⟨none, some 14, .call n_spec_WorkOk [.t 13]⟩,
    ⟨none, some 4, .mv (.t 14)⟩])
 (.seq (.reg [
    ⟨none, some 15, .ldn 22 (.t 1)⟩,
    ⟨none, some 16, .call n_laws_toWork [.t 15]⟩,
    ⟨none, some 5, .alloc [.c (.i 0), .c (.i 0), .c (.i 0), .c (.i 0), .c (.i 0), .c (.i 0), .c (.i 0), .c (.i 0), .c (.i 0), .nil 2, .c (.i 0), .c (.i 0), .c (.i 0), .c (.i 0), .c (.i 0), .c (.i 0), .c (.i 0), .c (.i 0), .nil 2, .c (.b false), .c (.i 0), .nil 4]⟩,
    ⟨none, none, .stn 22 (.t 5) (.t 16)⟩])
 (.seq (.reg [
    ⟨none, some 17, .ldn 22 (.t 5)⟩,
    ⟨none, some 18, .call n_impl_WorkOk [.t 17]⟩,
    ⟨none, some 6, .mv (.t 18)⟩])
 (.seq (.seq (.reg [
     ⟨none, some 19, .mv (.t 6)⟩,
     ⟨none, some 20, .mv (.t 4)⟩,
     ⟨none, some 21, .beq true (.t 19) (.t 20)⟩])
  (.cond (.t 21)
   (.seq (.reg [
       ⟨none, some 2, .mv (.k (.c (.b false)))⟩])
    (.ret))
   (.skip)))
 (.seq (.seq (.regq [
     ⟨none, some 22, .ldn 22 (.t 5)⟩,
     ⟨none, some 23, .ldn 22 (.t 1)⟩,
     ⟨none, some 24, .call n_laws_toWork [.t 23]⟩,
     ⟨none, some 25, .call n_laws_eqWork [.t 22, .t 24]⟩,
     ⟨none, some 26, .not (.t 25)⟩])
  (.cond (.t 26)
   (.seq (.reg [
       ⟨none, some 2, .mv (.k (.c (.b false)))⟩])
    (.ret))
   (.skip)))
 (.seq (.reg [
    ⟨none, some 2, .mv (.k (.c (.b true)))⟩])
 (.ret))))))))))
theorem h_laws_FnExactWorkOk : Has Try.prog n_laws_FnExactWorkOk 27 c_laws_FnExactWorkOk [.t 2] := ⟨by decide, Try.f22, _, Try.func22, rfl, rfl, by kernel_rfl, by kernel_rfl⟩

def c_laws_szWork : SC :=
 .seq (.reg [
    ⟨none, some 2, .box 22 (.t 0)⟩,
    ⟨none, some 4, .mv (.k (.c (.i 0)))⟩])
 (.seq (.reg [
    ⟨none, some 5, .fld 0 (.t 2)⟩,
    ⟨none, some 6, .ldn 10 (.t 5)⟩,
    ⟨none, some 7, .mv (.t 1)⟩,
    ⟨none, some 8, .call n_laws_szLock [.t 6, .t 7]⟩,
    ⟨none, some 1, .mv (.t 8)⟩])
 (.seq (.seq (.reg [
     ⟨none, some 9, .mv (.t 1)⟩,
     ⟨none, some 10, .bin .lss (.t 9) (.k (.c (.i 0)))⟩])
  (.cond (.t 10)
   (.seq (.reg [
       ⟨none, some 4, .mv (.k (.c (.i (-1))))⟩])
    (.ret))
   (.skip)))
 (.seq (.reg [
    ⟨none, some 11, .fld 18 (.t 2)⟩,
    ⟨none, some 12, .ld1 (.t 11)⟩,
    ⟨none, some 13, .mv (.t 1)⟩,
    ⟨none, some 14, .call n_laws_szPauseS [.t 12, .t 13]⟩,
    ⟨none, some 1, .mv (.t 14)⟩])
 (.seq (.seq (.reg [
     ⟨none, some 15, .mv (.t 1)⟩,
     ⟨none, some 16, .bin .lss (.t 15) (.k (.c (.i 0)))⟩])
  (.cond (.t 16)
   (.seq (.reg [
       ⟨none, some 4, .mv (.k (.c (.i (-1))))⟩])
    (.ret))
   (.skip)))
 (.seq (.reg [
    ⟨none, some 17, .fld 21 (.t 2)⟩,
    ⟨none, some 18, .ld1 (.t 17)⟩,
    ⟨none, some 19, .mv (.t 1)⟩,
    ⟨none, some 20, .call n_laws_szCallS [.t 18, .t 19]⟩,
    ⟨none, some 1, .mv (.t 20)⟩])
 (.seq (.seq (.reg [
     ⟨none, some 21, .mv (.t 1)⟩,
     ⟨none, some 22, .bin .lss (.t 21) (.k (.c (.i 0)))⟩])
  (.cond (.t 22)
   (.seq (.reg [
       ⟨none, some 4, .mv (.k (.c (.i (-1))))⟩])
    (.ret))
   (.skip)))
 (.seq (.reg [
    ⟨none, some 23, .mv (.t 1)⟩,
    ⟨none, some 4, .mv (.t 23)⟩])
 (.ret))))))))
theorem h_laws_szWork : Has Try.prog n_laws_szWork 24 c_laws_szWork [.t 4] := ⟨by decide, Try.f101, _, Try.func101, rfl, rfl, by kernel_rfl, by kernel_rfl⟩

def c_spec_WorkOk : SC :=
 .seq (.reg [
    ⟨none, some 1, .box 22 (.t 0)⟩,
    ⟨none, some 2, .mv (.k (.c (.b false)))⟩])
 (.seq (.seq (.reg [
     ⟨none, some 3, .mv (.k (.c (.i 0)))⟩])
  (.block 0 (.loop (.seq (.seq (.reg [
        ⟨none, some 4, .mv (.t 3)⟩,
        ⟨none, some 5, .fld 21 (.t 1)⟩,
        ⟨none, some 6, .ld1 (.t 5)⟩,
        ⟨none, some 7, .len (.t 6)⟩,
        ⟨none, some 8, .bin .lss (.t 4) (.t 7)⟩])
     (.cond (.t 8)
      (.skip)
      (.exit 0)))
    (.seq (.block 1 (.seq (.reg [
         ⟨none, some 11, .fld 21 (.t 1)⟩,
         ⟨none, some 12, .ld1 (.t 11)⟩,
         ⟨none, some 13, .mv (.t 3)⟩,
         ⟨none, some 14, .idx 4 (.t 12) (.t 13)⟩,
         ⟨none, some 15, .ldn 4 (.t 14)⟩,
         ⟨none, some 16, .call n_spec_CallOk [.t 15]⟩,
         ⟨none, some 17, .not (.t 16)⟩])
      (.cond (.t 17)
       (.seq (.reg [
           ⟨none, some 2, .mv (.k (.c (.b false)))⟩])
        (.ret))
       (.skip))))
    (.reg [
      ⟨none, some 9, .mv (.t 3)⟩,
      ⟨none, some 10, .bin .add (.t 9) (.k (.c (.i 1)))⟩,
      ⟨none, some 3, .mv (.t 10)⟩]))))))
 (.seq (.reg [
    ⟨none, some 18, .fld 21 (.t 1)⟩,
    ⟨none, some 19, .ld1 (.t 18)⟩,
    ⟨none, some 20, .len (.t 19)⟩,
    ⟨none, some 21, .bin .leq (.t 20) (.k (.c (.i 24)))⟩,
    ⟨none, some 22, .mv (.t 21)⟩,
    ⟨some (22, true), some 23, .fld 0 (.t 1)⟩,
    ⟨some (22, true), some 24, .ldn 10 (.t 23)⟩,
    ⟨some (22, true), some 25, .call n_spec_LockOk [.t 24]⟩,
    ⟨none, some 26, .pick (.t 22) (.t 25) (.k (.c (.b false)))⟩,
    ⟨none, some 27, .mv (.t 26)⟩,
    ⟨some (27, true), some 28, .fld 10 (.t 1)⟩,
    ⟨some (27, true), some 29, .ldn 5 (.t 28)⟩,
    ⟨some (27, true), some 30, .call n_spec_WeirOk [.t 29]⟩,
    ⟨none, some 31, .pick (.t 27) (.t 30) (.k (.c (.b false)))⟩,
    ⟨none, some 32, .mv (.t 31)⟩,
    ⟨some (32, true), some 33, .fld 15 (.t 1)⟩,
    ⟨some (32, true), some 34, .ldn 3 (.t 33)⟩,
    ⟨some (32, true), some 35, .call n_spec_RuleOk [.t 34]⟩,
    ⟨none, some 36, .pick (.t 32) (.t 35) (.k (.c (.b false)))⟩,
    ⟨none, some 37, .mv (.t 36)⟩,
    ⟨some (37, true), some 38, .fld 18 (.t 1)⟩,
    ⟨some (37, true), some 39, .ld1 (.t 38)⟩,
    ⟨some (37, true), some 40, .call n_spec_PausesOk [.t 39]⟩,
    ⟨none, some 41, .pick (.t 37) (.t 40) (.k (.c (.b false)))⟩,
    ⟨none, some 42, .mv (.t 41)⟩,
    ⟨some (42, true), some 43, .fld 19 (.t 1)⟩,
    ⟨some (42, true), some 44, .ldn 2 (.t 43)⟩,
    ⟨some (42, true), some 45, .call n_spec_TurnOk [.t 44]⟩,
    ⟨none, some 46, .pick (.t 42) (.t 45) (.k (.c (.b false)))⟩,
    ⟨none, some 2, .mv (.t 46)⟩])
 (.ret)))
theorem h_spec_WorkOk : Has Try.prog n_spec_WorkOk 47 c_spec_WorkOk [.t 2] := ⟨by decide, Try.f102, _, Try.func102, rfl, rfl, by kernel_rfl, by kernel_rfl⟩

end Go.Proofs.Ytfmgadchjiplmaa
