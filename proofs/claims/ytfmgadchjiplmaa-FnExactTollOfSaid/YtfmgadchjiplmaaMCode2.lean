/- Functions of this seat in the small language, written by a program (GenCode) out of the translation; each is held against the translation by the kernel. -/
import Derived.Test.YtfmgadchjiplmaaMNames
import Derived.KernelRfl
set_option linter.all false
namespace Go.Proofs.Ytfmgadchjiplmaa
open Go.RowKit

def c_impl_PostEntries : SC :=
 .seq (.reg [
    ⟨none, some 4, .mv (.k (.nil 5))⟩,
    ⟨none, some 5, .mv (.k (.c (.b false)))⟩])
 (.seq (.seq (.reg [
     ⟨none, some 6, .mv (.t 0)⟩,
     ⟨none, some 7, .call n_impl_BookOk [.t 6]⟩,
     ⟨none, some 8, .not (.t 7)⟩,
     ⟨none, some 9, .mv (.t 8)⟩,
     ⟨some (9, false), some 10, .mv (.t 1)⟩,
     ⟨some (9, false), some 11, .len (.t 10)⟩,
     ⟨some (9, false), some 12, .bin .gtr (.t 11) (.k (.c (.i 2000)))⟩,
     ⟨none, some 13, .pick (.t 9) (.k (.c (.b true))) (.t 12)⟩,
     ⟨none, some 14, .mv (.t 13)⟩,
     ⟨some (14, false), some 15, .mv (.t 0)⟩,
     ⟨some (14, false), some 16, .mv (.t 1)⟩,
     ⟨some (14, false), some 17, .bsl 1 [.t 15, .t 16]⟩,
     ⟨some (14, false), some 18, .call n_slices_Concat___impl_Entry_impl_Entry_ [.t 17]⟩,
     ⟨some (14, false), some 19, .call n_impl_BookOk [.t 18]⟩,
     ⟨some (14, false), some 20, .not (.t 19)⟩,
     ⟨none, some 21, .pick (.t 14) (.k (.c (.b true))) (.t 20)⟩])
  (.cond (.t 21)
   (.seq (.reg [
       ⟨none, some 22, .mv (.t 0)⟩,
       ⟨none, some 23, .call n_slices_Clone___impl_Entry_impl_Entry_ [.t 22]⟩,
       ⟨none, some 4, .mv (.t 23)⟩,
       ⟨none, some 5, .mv (.k (.c (.b false)))⟩])
    (.ret))
   (.skip)))
 (.seq (.reg [
    ⟨none, some 24, .mv (.t 0)⟩,
    ⟨none, some 25, .mv (.t 1)⟩,
    ⟨none, some 26, .bsl 1 [.t 24, .t 25]⟩,
    ⟨none, some 27, .call n_slices_Concat___impl_Entry_impl_Entry_ [.t 26]⟩,
    ⟨none, some 4, .mv (.t 27)⟩,
    ⟨none, some 5, .mv (.k (.c (.b true)))⟩])
 (.ret)))
theorem h_impl_PostEntries : Has Try.prog n_impl_PostEntries 28 c_impl_PostEntries [.t 4, .t 5] := ⟨by decide, Try.f56, _, Try.func56, rfl, rfl, by kernel_rfl, by kernel_rfl⟩

def c_spec_l01New : SC :=
 .seq (.reg [
    ⟨none, some 2, .mv (.k (.any))⟩])
 (.seq (.reg [
    ⟨none, some 5, .mv (.t 0)⟩,
    ⟨none, some 6, .len (.t 5)⟩,
    ⟨none, some 7, .bin .add (.k (.c (.i 33173))) (.t 6)⟩,
    ⟨none, some 3, .mv (.t 7)⟩])
 (.seq (.seq (.reg [
     ⟨none, some 4, .mv (.k (.c (.i 0)))⟩])
  (.block 0 (.loop (.seq (.seq (.reg [
        ⟨none, some 8, .mv (.t 4)⟩,
        ⟨none, some 9, .mv (.t 0)⟩,
        ⟨none, some 10, .len (.t 9)⟩,
        ⟨none, some 11, .bin .lss (.t 8) (.t 10)⟩,
        ⟨none, some 12, .mv (.t 11)⟩,
        ⟨some (12, true), some 13, .mv (.t 4)⟩,
        ⟨some (12, true), some 14, .bin .lss (.t 13) (.k (.c (.i 4000)))⟩,
        ⟨none, some 15, .pick (.t 12) (.t 14) (.k (.c (.b false)))⟩])
     (.cond (.t 15)
      (.skip)
      (.exit 0)))
    (.seq (.block 1 (.reg [
        ⟨none, some 18, .mv (.t 3)⟩,
        ⟨none, some 19, .bin .mul (.t 18) (.k (.c (.i 131)))⟩,
        ⟨none, some 20, .mv (.t 0)⟩,
        ⟨none, some 21, .mv (.t 4)⟩,
        ⟨none, some 22, .idx 1 (.t 20) (.t 21)⟩,
        ⟨none, some 23, .ld1 (.t 22)⟩,
        ⟨none, some 24, .cvt 0 (.t 23)⟩,
        ⟨none, some 25, .bin .add (.t 19) (.t 24)⟩,
        ⟨none, some 26, .bin .add (.t 25) (.k (.c (.i 7)))⟩,
        ⟨none, some 27, .bit .and (.t 26) (.k (.c (.i 1073741823)))⟩,
        ⟨none, some 3, .mv (.t 27)⟩]))
    (.reg [
      ⟨none, some 16, .mv (.t 4)⟩,
      ⟨none, some 17, .bin .add (.t 16) (.k (.c (.i 1)))⟩,
      ⟨none, some 4, .mv (.t 17)⟩]))))))
 (.seq (.reg [
    ⟨none, some 28, .mv (.t 0)⟩,
    ⟨none, some 29, .mv (.t 3)⟩,
    ⟨none, some 30, .bld [.nil 1, .c (.i 0), .c (.i 0)] [(0, 1, .t 28), (2, 1, .t 29)]⟩,
    ⟨none, some 31, .box 3 (.t 30)⟩,
    ⟨none, some 2, .mv (.t 31)⟩])
 (.ret))))
theorem h_spec_l01New : Has Try.prog n_spec_l01New 32 c_spec_l01New [.t 2] := ⟨by decide, Try.f123, _, Try.func123, rfl, rfl, by kernel_rfl, by kernel_rfl⟩

def c_spec_l01Below : SC :=
 .seq (.reg [
    ⟨none, some 4, .mv (.k (.c (.i 0)))⟩])
 (.seq (.seq (.reg [
     ⟨none, some 9, .mv (.t 1)⟩,
     ⟨none, some 10, .bin .leq (.t 9) (.k (.c (.i 0)))⟩])
  (.cond (.t 10)
   (.seq (.reg [
       ⟨none, some 4, .mv (.k (.c (.i 0)))⟩])
    (.ret))
   (.skip)))
 (.seq (.seq (.reg [
     ⟨none, some 11, .mv (.t 1)⟩,
     ⟨none, some 12, .bin .leq (.t 11) (.k (.c (.i 256)))⟩])
  (.cond (.t 12)
   (.seq (.reg [
       ⟨none, some 13, .mv (.t 0)⟩,
       ⟨none, some 14, .call n_spec_l01Byte [.t 13]⟩,
       ⟨none, some 15, .mv (.t 1)⟩,
       ⟨none, some 16, .bin .rem (.t 14) (.t 15)⟩,
       ⟨none, some 4, .mv (.t 16)⟩])
    (.ret))
   (.skip)))
 (.seq (.reg [
    ⟨none, some 17, .mv (.t 0)⟩,
    ⟨none, some 18, .call n_spec_l01Byte [.t 17]⟩,
    ⟨none, some 5, .mv (.t 18)⟩])
 (.seq (.reg [
    ⟨none, some 19, .mv (.t 0)⟩,
    ⟨none, some 20, .call n_spec_l01Byte [.t 19]⟩,
    ⟨none, some 6, .mv (.t 20)⟩])
 (.seq (.reg [
    ⟨none, some 21, .mv (.t 0)⟩,
    ⟨none, some 22, .call n_spec_l01Byte [.t 21]⟩,
    ⟨none, some 7, .mv (.t 22)⟩])
 (.seq (.reg [
    ⟨none, some 23, .mv (.t 0)⟩,
    ⟨none, some 24, .call n_spec_l01Byte [.t 23]⟩,
    ⟨none, some 8, .mv (.t 24)⟩])
 (.seq (.reg [
    ⟨none, some 25, .mv (.t 5)⟩,
    ⟨none, some 26, .bin .mul (.t 25) (.k (.c (.i 16777216)))⟩,
    ⟨none, some 27, .mv (.t 6)⟩,
    ⟨none, some 28, .bin .mul (.t 27) (.k (.c (.i 65536)))⟩,
    ⟨none, some 29, .bin .add (.t 26) (.t 28)⟩,
    ⟨none, some 30, .mv (.t 7)⟩,
    ⟨none, some 31, .bin .mul (.t 30) (.k (.c (.i 256)))⟩,
    ⟨none, some 32, .bin .add (.t 29) (.t 31)⟩,
    ⟨none, some 33, .mv (.t 8)⟩,
    ⟨none, some 34, .bin .add (.t 32) (.t 33)⟩,
    ⟨none, some 35, .mv (.t 1)⟩,
    ⟨none, some 36, .bin .rem (.t 34) (.t 35)⟩,
    ⟨none, some 4, .mv (.t 36)⟩])
 (.ret))))))))
theorem h_spec_l01Below : Has Try.prog n_spec_l01Below 37 c_spec_l01Below [.t 4] := ⟨by decide, Try.f124, _, Try.func124, rfl, rfl, by kernel_rfl, by kernel_rfl⟩

def c_spec_l08Book : SC :=
 .seq (.reg [
    ⟨none, some 2, .mv (.k (.nil 5))⟩])
 (.seq (.reg [
    ⟨none, some 5, .bsl 5 []⟩,
    ⟨none, some 3, .mv (.t 5)⟩])
 (.seq (.seq (.reg [
     ⟨none, some 6, .mv (.t 0)⟩,
     ⟨none, some 7, .call n_spec_l01Below [.t 6, .k (.c (.i 9))]⟩,
     ⟨none, some 4, .mv (.t 7)⟩])
  (.block 0 (.loop (.seq (.seq (.reg [
        ⟨none, some 8, .mv (.t 4)⟩,
        ⟨none, some 9, .bin .gtr (.t 8) (.k (.c (.i 0)))⟩])
     (.cond (.t 9)
      (.skip)
      (.exit 0)))
    (.seq (.block 1 (.reg [
        ⟨none, some 12, .mv (.t 3)⟩,
        ⟨none, some 13, .mv (.t 0)⟩,
        ⟨none, some 14, .call n_spec_l08Entry [.t 13]⟩,
        ⟨none, some 15, .bsl 5 [.t 14]⟩,
        ⟨none, some 16, .app 5 40 (.t 12) (.t 15)⟩,
        ⟨none, some 3, .mv (.t 16)⟩]))
    (.reg [
      ⟨none, some 10, .mv (.t 4)⟩,
      ⟨none, some 11, .bin .sub (.t 10) (.k (.c (.i 1)))⟩,
      ⟨none, some 4, .mv (.t 11)⟩]))))))
 (.seq (.reg [
    ⟨none, some 17, .mv (.t 3)⟩,
    ⟨none, some 2, .mv (.t 17)⟩])
 (.ret))))
theorem h_spec_l08Book : Has Try.prog n_spec_l08Book 18 c_spec_l08Book [.t 2] := ⟨by decide, Try.f126, _, Try.func126, rfl, rfl, by kernel_rfl, by kernel_rfl⟩

def c_slices_Clone___int_int_ : SC :=
 .seq (.reg [
    ⟨none, some 2, .mv (.k (.nil 1))⟩])
 (.seq (.seq (.reg [
     ⟨none, some 3, .mv (.t 0)⟩,
     ⟨none, some 4, .isn (.t 3)⟩])
  (.cond (.t 4)
   (.seq (.reg [
       ⟨none, some 2, .mv (.k (.nil 1))⟩])
    (.ret))
   (.skip)))
 (.seq (.reg [
    ⟨none, some 5, .bsl 1 []⟩,
    ⟨none, some 6, .mv (.t 0)⟩,
    ⟨none, some 7, .app 1 8 (.t 5) (.t 6)⟩,
    ⟨none, some 2, .mv (.t 7)⟩])
 (.ret)))
theorem h_slices_Clone___int_int_ : Has Try.prog n_slices_Clone___int_int_ 8 c_slices_Clone___int_int_ [.t 2] := ⟨by decide, Try.f127, _, Try.func127, rfl, rfl, by kernel_rfl, by kernel_rfl⟩

def c_slices_Concat___impl_Entry_impl_Entry_ : SC :=
 .seq (.reg [
    ⟨none, some 2, .mv (.k (.nil 5))⟩])
 (.seq (.reg [
    ⟨none, some 3, .mv (.k (.c (.i 0)))⟩])
 (.seq (.seq (.reg [
     ⟨none, some 9, .mv (.t 0)⟩,
     ⟨none, some 10, .len (.t 9)⟩,
     ⟨none, some 11, .mv (.k (.c (.i 0)))⟩])
  (.block 0 (.loop (.seq (.reg [
       ⟨none, some 12, .bin .lss (.t 11) (.t 10)⟩])
    (.seq (.cond (.t 12)
      (.skip)
      (.exit 0))
    (.seq (.block 1 (.seq (.reg [
         ⟨none, some 13, .idx 1 (.t 9) (.t 11)⟩,
         ⟨none, some 14, .ld1 (.t 13)⟩,
         ⟨none, some 5, .mv (.t 14)⟩])
      (.seq (.reg [
         ⟨none, some 15, .mv (.t 3)⟩,
         ⟨none, some 16, .mv (.t 5)⟩,
         ⟨none, some 17, .len (.t 16)⟩,
         ⟨none, some 18, .bin .add (.t 15) (.t 17)⟩,
         ⟨none, some 3, .mv (.t 18)⟩])
      (.seq (.reg [
         ⟨none, some 19, .mv (.t 3)⟩,
         ⟨none, some 20, .bin .lss (.t 19) (.k (.c (.i 0)))⟩])
      (.cond (.t 20)
       (.reg [
          ⟨none, some 21, .bad⟩,
          ⟨none, none, .bad⟩])
       (.skip))))))
    (.reg [
      ⟨none, some 22, .bin .add (.t 11) (.k (.c (.i 1)))⟩,
      ⟨none, some 11, .mv (.t 22)⟩])))))))
 (.seq (.reg [
    ⟨none, some 23, .mv (.t 3)⟩,
    ⟨none, some 24, .call n_slices_Grow___impl_Entry_impl_Entry_ [.k (.nil 5), .t 23]⟩,
    ⟨none, some 6, .mv (.t 24)⟩])
 (.seq (.seq (.reg [
     ⟨none, some 25, .mv (.t 0)⟩,
     ⟨none, some 26, .len (.t 25)⟩,
     ⟨none, some 27, .mv (.k (.c (.i 0)))⟩])
  (.block 2 (.loop (.seq (.reg [
       ⟨none, some 28, .bin .lss (.t 27) (.t 26)⟩])
    (.seq (.cond (.t 28)
      (.skip)
      (.exit 2))
    (.seq (.block 3 (.seq (.reg [
         ⟨none, some 29, .idx 1 (.t 25) (.t 27)⟩,
         ⟨none, some 30, .ld1 (.t 29)⟩,
         ⟨none, some 8, .mv (.t 30)⟩])
      (.reg [
        ⟨none, some 31, .mv (.t 6)⟩,
        ⟨none, some 32, .mv (.t 8)⟩,
        ⟨none, some 33, .app 5 40 (.t 31) (.t 32)⟩,
        ⟨none, some 6, .mv (.t 33)⟩])))
    (.reg [
      ⟨none, some 34, .bin .add (.t 27) (.k (.c (.i 1)))⟩,
      ⟨none, some 27, .mv (.t 34)⟩])))))))
 (.seq (.reg [
    ⟨none, some 35, .mv (.t 6)⟩,
    ⟨none, some 2, .mv (.t 35)⟩])
 (.ret))))))
theorem h_slices_Concat___impl_Entry_impl_Entry_ : Has Try.prog n_slices_Concat___impl_Entry_impl_Entry_ 36 c_slices_Concat___impl_Entry_impl_Entry_ [.t 2] := ⟨by decide, Try.f128, _, Try.func128, rfl, rfl, by kernel_rfl, by kernel_rfl⟩

def c_slices_Clone___impl_Entry_impl_Entry_ : SC :=
 .seq (.reg [
    ⟨none, some 2, .mv (.k (.nil 5))⟩])
 (.seq (.seq (.reg [
     ⟨none, some 3, .mv (.t 0)⟩,
     ⟨none, some 4, .isn (.t 3)⟩])
  (.cond (.t 4)
   (.seq (.reg [
       ⟨none, some 2, .mv (.k (.nil 5))⟩])
    (.ret))
   (.skip)))
 (.seq (.reg [
    ⟨none, some 5, .bsl 5 []⟩,
    ⟨none, some 6, .mv (.t 0)⟩,
    ⟨none, some 7, .app 5 40 (.t 5) (.t 6)⟩,
    ⟨none, some 2, .mv (.t 7)⟩])
 (.ret)))
theorem h_slices_Clone___impl_Entry_impl_Entry_ : Has Try.prog n_slices_Clone___impl_Entry_impl_Entry_ 8 c_slices_Clone___impl_Entry_impl_Entry_ [.t 2] := ⟨by decide, Try.f129, _, Try.func129, rfl, rfl, by kernel_rfl, by kernel_rfl⟩

def c_spec_l01Byte : SC :=
 .seq (.reg [
    ⟨none, some 2, .mv (.k (.c (.i 0)))⟩])
 (.seq (.reg [
    ⟨none, some 4, .mv (.t 0)⟩,
    ⟨none, some 5, .mv (.t 0)⟩,
    ⟨none, some 6, .nck (.t 5)⟩,
    ⟨none, some 7, .fld 2 (.t 6)⟩,
    ⟨none, some 8, .ld1 (.t 7)⟩,
    ⟨none, some 9, .binw .mul (.t 8) (.k (.c (.i 6364136223846793005)))⟩,
    ⟨none, some 10, .binw .add (.t 9) (.k (.c (.i 1442695040888963407)))⟩,
    ⟨none, some 11, .nck (.t 4)⟩,
    ⟨none, some 12, .fld 2 (.t 11)⟩,
    ⟨none, none, .st1 (.t 12) (.t 10)⟩])
 (.seq (.regq [
    ⟨none, some 13, .mv (.t 0)⟩,
    ⟨none, some 14, .nck (.t 13)⟩,
    ⟨none, some 15, .fld 2 (.t 14)⟩,
    ⟨none, some 16, .ld1 (.t 15)⟩,
    ⟨none, some 17, .bit .shr (.t 16) (.k (.c (.i 33)))⟩,
    ⟨none, some 18, .mv (.t 0)⟩,
    ⟨none, some 19, .nck (.t 18)⟩,
    ⟨none, some 20, .fld 2 (.t 19)⟩,
    ⟨none, some 21, .ld1 (.t 20)⟩,
    ⟨none, some 22, .bit .shr (.t 21) (.k (.c (.i 45)))⟩,
    ⟨none, some 23, .bit .xor (.t 17) (.t 22)⟩,
    ⟨none, some 24, .bit .and (.t 23) (.k (.c (.i 255)))⟩,
    ⟨none, some 3, .mv (.t 24)⟩])
 (.seq (.seq (.regq [
     ⟨none, some 25, .mv (.t 0)⟩,
     ⟨none, some 26, .nck (.t 25)⟩,
     ⟨none, some 27, .fld 1 (.t 26)⟩,
     ⟨none, some 28, .ld1 (.t 27)⟩,
     ⟨none, some 29, .mv (.t 0)⟩,
     ⟨none, some 30, .nck (.t 29)⟩,
     ⟨none, some 31, .fld 0 (.t 30)⟩,
     ⟨none, some 32, .ld1 (.t 31)⟩,
     ⟨none, some 33, .len (.t 32)⟩,
     ⟨none, some 34, .bin .lss (.t 28) (.t 33)⟩])
  (.cond (.t 34)
   (.seq (.regq [
       ⟨none, some 35, .mv (.t 3)⟩,
       ⟨none, some 36, .mv (.t 0)⟩,
       ⟨none, some 37, .nck (.t 36)⟩,
       ⟨none, some 38, .fld 0 (.t 37)⟩,
       ⟨none, some 39, .ld1 (.t 38)⟩,
       ⟨none, some 40, .mv (.t 0)⟩,
       ⟨none, some 41, .nck (.t 40)⟩,
       ⟨none, some 42, .fld 1 (.t 41)⟩,
       ⟨none, some 43, .ld1 (.t 42)⟩,
       ⟨none, some 44, .idx 1 (.t 39) (.t 43)⟩,
       ⟨none, some 45, .ld1 (.t 44)⟩,
       ⟨none, some 46, .cvt 0 (.t 45)⟩,
       ⟨none, some 47, .bin .add (.t 35) (.t 46)⟩,
       ⟨none, some 48, .bit .and (.t 47) (.k (.c (.i 255)))⟩,
       ⟨none, some 3, .mv (.t 48)⟩])
    (.reg [
      ⟨none, some 49, .mv (.t 0)⟩,
      ⟨none, some 50, .mv (.t 0)⟩,
      ⟨none, some 51, .nck (.t 50)⟩,
      ⟨none, some 52, .fld 1 (.t 51)⟩,
      ⟨none, some 53, .ld1 (.t 52)⟩,
      ⟨none, some 54, .bin .add (.t 53) (.k (.c (.i 1)))⟩,
      ⟨none, some 55, .nck (.t 49)⟩,
      ⟨none, some 56, .fld 1 (.t 55)⟩,
      ⟨none, none, .st1 (.t 56) (.t 54)⟩]))
   (.skip)))
 (.seq (.reg [
    ⟨none, some 57, .mv (.t 3)⟩,
    ⟨none, some 2, .mv (.t 57)⟩])
 (.ret)))))
theorem h_spec_l01Byte : Has Try.prog n_spec_l01Byte 58 c_spec_l01Byte [.t 2] := ⟨by decide, Try.f196, _, Try.func196, rfl, rfl, by kernel_rfl, by kernel_rfl⟩

def c_spec_l08Entry : SC :=
 .seq (.reg [
    ⟨none, some 2, .alloc [.c (.i 0), .c (.i 0), .c (.i 0), .c (.i 0), .c (.i 0)]⟩])
 (.seq (.reg [
    ⟨none, some 4, .mv (.t 0)⟩,
    ⟨none, some 5, .call n_spec_l01Below [.t 4, .k (.c (.i 12))]⟩,
    ⟨none, some 3, .mv (.t 5)⟩])
 (.seq (.reg [
    ⟨none, some 6, .mv (.t 3)⟩,
    ⟨none, some 7, .mv (.t 3)⟩,
    ⟨none, some 8, .bin .add (.t 7) (.k (.c (.i 1)))⟩,
    ⟨none, some 9, .mv (.t 0)⟩,
    ⟨none, some 10, .call n_spec_l01Below [.t 9, .k (.c (.i 5))]⟩,
    ⟨none, some 11, .bin .add (.t 8) (.t 10)⟩,
    ⟨none, some 12, .bin .rem (.t 11) (.k (.c (.i 12)))⟩,
    ⟨none, some 13, .mv (.t 0)⟩,
    ⟨none, some 14, .call n_spec_l01Below [.t 13, .k (.c (.i 500))]⟩,
    ⟨none, some 15, .bin .add (.k (.c (.i 1))) (.t 14)⟩,
    ⟨none, some 16, .mv (.t 0)⟩,
    ⟨none, some 17, .call n_spec_l01Below [.t 16, .k (.c (.i 90))]⟩,
    ⟨none, some 18, .mv (.t 0)⟩,
    ⟨none, some 19, .call n_spec_l01Below [.t 18, .k (.c (.i 90))]⟩,
    ⟨none, some 20, .bld [.c (.i 0), .c (.i 0), .c (.i 0), .c (.i 0), .c (.i 0)] [(0, 1, .t 6), (1, 1, .t 12), (2, 1, .t 15), (3, 1, .t 17), (4, 1, .t 19)]⟩,
    ⟨none, none, .stn 5 (.t 2) (.t 20)⟩])
 (.ret)))
theorem h_spec_l08Entry : Has Try.prog n_spec_l08Entry 21 c_spec_l08Entry [.cl 2 5] := ⟨by decide, Try.f198, _, Try.func198, rfl, rfl, by kernel_rfl, by kernel_rfl⟩



def c_laws_FnExactBalancesOf : SC :=
 .seq (.reg [
    ⟨none, some 2, .mv (.k (.c (.b false)))⟩])
 (.seq (.reg [
    ⟨none, some 3, .mv (.k (.c (.i 1048576)))⟩])
 (.seq (.reg [
    ⟨none, some 11, .mv (.t 0)⟩,
    ⟨none, some 12, .mv (.t 3)⟩,
    ⟨none, some 13, .call n_laws_szEntryS [.t 11, .t 12]⟩,
    ⟨none, some 3, .mv (.t 13)⟩])
 (.seq (.seq (.reg [
     ⟨none, some 14, .mv (.t 3)⟩,
     ⟨none, some 15, .bin .lss (.t 14) (.k (.c (.i 0)))⟩])
  (.cond (.t 15)
   (.seq (.reg [
       ⟨none, some 2, .mv (.k (.c (.b true)))⟩])
    (.ret))
   (.skip)))
 (.seq (.reg [
    ⟨none, some 16, .mv (.t 0)⟩,
    ⟨none, some 17, .call n_laws_toEntryS [.t 16]⟩,
    ⟨none, some 18, .call n_spec_BalancesOf [.t 17]⟩,
    ⟨none, some 4, .mv (.t 18)⟩])
 (.seq (.reg [
    ⟨none, some 19, .mv (.t 0)⟩,
    ⟨none, some 20, .call n_laws_toEntryS [.t 19]⟩,
    ⟨none, some 5, .mv (.t 20)⟩])
 (.seq (.reg [
    ⟨none, some 21, .mv (.t 5)⟩,
    ⟨none, some 22, .call n_impl_BalancesOf [.t 21]⟩,
    ⟨none, some 6, .mv (.t 22)⟩])
 (.seq (.seq (.reg [
     ⟨none, some 23, .mv (.t 6)⟩,
     ⟨none, some 24, .mv (.t 4)⟩,
     ⟨none, some 25, .call n_laws_eqIntS [.t 23, .t 24]⟩,
     ⟨none, some 26, .not (.t 25)⟩])
  (.cond (.t 26)
   (.seq (.reg [
       ⟨none, some 2, .mv (.k (.c (.b false)))⟩])
    (.ret))
   (.skip)))
 (.seq (.seq (.reg [
     ⟨none, some 27, .mv (.t 5)⟩,
     ⟨none, some 28, .mv (.t 0)⟩,
     ⟨none, some 29, .call n_laws_toEntryS [.t 28]⟩,
     ⟨none, some 30, .call n_laws_eqEntryS [.t 27, .t 29]⟩,
     ⟨none, some 31, .not (.t 30)⟩])
  (.cond (.t 31)
   (.seq (.reg [
       ⟨none, some 2, .mv (.k (.c (.b false)))⟩])
    (.ret))
   (.skip)))
 (.seq (.reg [
    ⟨none, some 7, .mv (.k (.c (.i 1)))⟩])
 (.seq (.reg [
    ⟨none, some 32, .mv (.t 5)⟩,
    ⟨none, some 33, .mv (.t 7)⟩,
    ⟨none, some 34, .call n_laws_markEntryS [.t 32, .t 33]⟩,
    ⟨none, some 7, .mv (.t 34)⟩])
 (.seq (.seq (.reg [
     ⟨none, some 35, .mv (.t 7)⟩,
     ⟨none, some 36, .bin .lss (.t 35) (.k (.c (.i 0)))⟩,
     ⟨none, some 37, .mv (.t 36)⟩,
     ⟨some (37, false), some 38, .mv (.t 6)⟩,
     ⟨some (37, false), some 39, .mv (.t 4)⟩,
     ⟨some (37, false), some 40, .call n_laws_eqIntS [.t 38, .t 39]⟩,
     ⟨some (37, false), some 41, .not (.t 40)⟩,
     ⟨none, some 42, .pick (.t 37) (.k (.c (.b true))) (.t 41)⟩])
  (.cond (.t 42)
   (.seq (.reg [
       ⟨none, some 2, .mv (.k (.c (.b false)))⟩])
    (.ret))
   (.skip)))
 (.seq (.reg [
    ⟨none, some 8, .mv (.k (.c (.i 1)))⟩])
 (.seq (.reg [
    ⟨none, some 43, .mv (.t 6)⟩,
    ⟨none, some 44, .mv (.t 8)⟩,
    ⟨none, some 45, .call n_laws_markIntS [.t 43, .t 44]⟩,
    ⟨none, some 8, .mv (.t 45)⟩])
 (.seq (.reg [
    ⟨none, some 9, .mv (.k (.c (.i 1)))⟩])
 (.seq (.reg [
    ⟨none, some 46, .mv (.t 6)⟩,
    ⟨none, some 47, .mv (.t 9)⟩,
    ⟨none, some 48, .call n_laws_heldIntS [.t 46, .t 47]⟩,
    ⟨none, some 9, .mv (.t 48)⟩])
 (.seq (.seq (.reg [
     ⟨none, some 49, .mv (.t 9)⟩,
     ⟨none, some 50, .bin .lss (.t 49) (.k (.c (.i 0)))⟩])
  (.cond (.t 50)
   (.seq (.reg [
       ⟨none, some 2, .mv (.k (.c (.b false)))⟩])
    (.ret))
   (.skip)))
 (.seq (.seq (.reg [
     ⟨none, some 51, .mv (.t 9)⟩,
     ⟨none, some 52, .mv (.t 8)⟩,
     ⟨none, some 53, .bin .neq (.t 51) (.t 52)⟩])
  (.cond (.t 53)
   (.seq (.reg [
       ⟨none, some 2, .mv (.k (.c (.b false)))⟩])
    (.ret))
   (.skip)))
 (.seq (.reg [
    ⟨none, some 54, .mv (.t 0)⟩,
    ⟨none, some 55, .call n_laws_toEntryS [.t 54]⟩,
    ⟨none, some 56, .call n_impl_BalancesOf [.t 55]⟩,
    ⟨none, some 10, .mv (.t 56)⟩])
 (.seq (.seq (.reg [
     ⟨none, some 57, .mv (.t 10)⟩,
     ⟨none, some 58, .mv (.t 4)⟩,
     ⟨none, some 59, .call n_laws_eqIntS [.t 57, .t 58]⟩,
     ⟨none, some 60, .not (.t 59)⟩])
  (.cond (.t 60)
   (.seq (.reg [
       ⟨none, some 2, .mv (.k (.c (.b false)))⟩])
    (.ret))
   (.skip)))
 (.seq (.reg [
    ⟨none, some 9, .mv (.k (.c (.i 1)))⟩])
 (.seq (.reg [
    ⟨none, some 61, .mv (.t 6)⟩,
    ⟨none, some 62, .mv (.t 9)⟩,
    ⟨none, some 63, .call n_laws_heldIntS [.t 61, .t 62]⟩,
    ⟨none, some 9, .mv (.t 63)⟩])
 (.seq (.seq (.reg [
     ⟨none, some 64, .mv (.t 9)⟩,
     ⟨none, some 65, .bin .lss (.t 64) (.k (.c (.i 0)))⟩])
  (.cond (.t 65)
   (.seq (.reg [
       ⟨none, some 2, .mv (.k (.c (.b false)))⟩])
    (.ret))
   (.skip)))
 (.seq (.seq (.reg [
     ⟨none, some 66, .mv (.t 9)⟩,
     ⟨none, some 67, .mv (.t 8)⟩,
     ⟨none, some 68, .bin .neq (.t 66) (.t 67)⟩])
  (.cond (.t 68)
   (.seq (.reg [
       ⟨none, some 2, .mv (.k (.c (.b false)))⟩])
    (.ret))
   (.skip)))
 (.seq (.reg [
    ⟨none, some 2, .mv (.k (.c (.b true)))⟩])
 (.ret)))))))))))))))))))))))))
theorem h_laws_FnExactBalancesOf : Has Try.prog n_laws_FnExactBalancesOf 69 c_laws_FnExactBalancesOf [.t 2] := ⟨by decide, Try.f7, _, Try.func7, rfl, rfl, by kernel_rfl, by kernel_rfl⟩

def c_spec_BalancesOf : SC :=
 .seq (.reg [
    ⟨none, some 2, .mv (.k (.nil 1))⟩])
 (.seq (.seq (.reg [
     ⟨none, some 5, .mv (.t 0)⟩,
     ⟨none, some 6, .call n_spec_BookOk [.t 5]⟩,
     ⟨none, some 7, .not (.t 6)⟩])
  (.cond (.t 7)
   (.seq (.reg [
       ⟨none, some 8, .bsl 1 []⟩,
       ⟨none, some 2, .mv (.t 8)⟩])
    (.ret))
   (.skip)))
 (.seq (.reg [
    ⟨none, some 9, .mks 1 8 [.i 0] (.k (.c (.i 12))) (.k (.c (.i 12)))⟩,
    ⟨none, some 3, .mv (.t 9)⟩])
 (.seq (.seq (.reg [
     ⟨none, some 4, .mv (.k (.c (.i 0)))⟩])
  (.block 0 (.loop (.seq (.seq (.reg [
        ⟨none, some 10, .mv (.t 4)⟩,
        ⟨none, some 11, .mv (.t 0)⟩,
        ⟨none, some 12, .len (.t 11)⟩,
        ⟨none, some 13, .bin .lss (.t 10) (.t 12)⟩])
     (.cond (.t 13)
      (.skip)
      (.exit 0)))
    (.seq (.block 1 (.seq (.rege [
         ⟨0, false, [], ⟨none, some 16, .mv (.t 3)⟩⟩,
         ⟨0, false, [], ⟨none, some 17, .mv (.t 0)⟩⟩,
         ⟨0, false, [], ⟨none, some 18, .mv (.t 4)⟩⟩,
         ⟨0, false, [], ⟨none, some 19, .idx 5 (.t 17) (.t 18)⟩⟩,
         ⟨0, false, [], ⟨none, some 20, .fld 1 (.t 19)⟩⟩,
         ⟨0, false, [], ⟨none, some 21, .ld1 (.t 20)⟩⟩,
         ⟨0, false, [], ⟨none, some 22, .mv (.t 3)⟩⟩,
         ⟨0, false, [], ⟨none, some 23, .mv (.t 0)⟩⟩,
         ⟨0, false, [], ⟨none, some 24, .mv (.t 4)⟩⟩,
         ⟨0, false, [], ⟨none, some 25, .idx 5 (.t 23) (.t 24)⟩⟩,
         ⟨0, false, [], ⟨none, some 26, .fld 1 (.t 25)⟩⟩,
         ⟨0, false, [], ⟨none, some 27, .ld1 (.t 26)⟩⟩,
         ⟨0, false, [], ⟨none, some 28, .idx 1 (.t 22) (.t 27)⟩⟩,
         ⟨0, false, [], ⟨none, some 29, .ld1 (.t 28)⟩⟩,
         ⟨0, false, [], ⟨none, some 30, .mv (.t 0)⟩⟩,
         ⟨0, false, [], ⟨none, some 31, .mv (.t 4)⟩⟩,
         ⟨0, false, [], ⟨none, some 32, .idx 5 (.t 30) (.t 31)⟩⟩,
         ⟨0, false, [], ⟨none, some 33, .fld 2 (.t 32)⟩⟩,
         ⟨0, false, [], ⟨none, some 34, .ld1 (.t 33)⟩⟩,
         ⟨0, false, [], ⟨none, some 35, .bin .add (.t 29) (.t 34)⟩⟩,
         ⟨0, false, [], ⟨none, some 36, .idx 1 (.t 16) (.t 21)⟩⟩,
         ⟨2, false, [], ⟨none, none, .st1 (.t 36) (.t 35)⟩⟩])
      (.rege [
        ⟨0, false, [], ⟨none, some 37, .mv (.t 3)⟩⟩,
        ⟨0, false, [], ⟨none, some 38, .mv (.t 0)⟩⟩,
        ⟨0, false, [], ⟨none, some 39, .mv (.t 4)⟩⟩,
        ⟨0, false, [], ⟨none, some 40, .idx 5 (.t 38) (.t 39)⟩⟩,
        ⟨0, false, [], ⟨none, some 41, .fld 0 (.t 40)⟩⟩,
        ⟨0, false, [], ⟨none, some 42, .ld1 (.t 41)⟩⟩,
        ⟨0, false, [], ⟨none, some 43, .mv (.t 3)⟩⟩,
        ⟨0, false, [], ⟨none, some 44, .mv (.t 0)⟩⟩,
        ⟨0, false, [], ⟨none, some 45, .mv (.t 4)⟩⟩,
        ⟨0, false, [], ⟨none, some 46, .idx 5 (.t 44) (.t 45)⟩⟩,
        ⟨0, false, [], ⟨none, some 47, .fld 0 (.t 46)⟩⟩,
        ⟨0, false, [], ⟨none, some 48, .ld1 (.t 47)⟩⟩,
        ⟨0, false, [], ⟨none, some 49, .idx 1 (.t 43) (.t 48)⟩⟩,
        ⟨0, false, [], ⟨none, some 50, .ld1 (.t 49)⟩⟩,
        ⟨0, false, [], ⟨none, some 51, .mv (.t 0)⟩⟩,
        ⟨0, false, [], ⟨none, some 52, .mv (.t 4)⟩⟩,
        ⟨0, false, [], ⟨none, some 53, .idx 5 (.t 51) (.t 52)⟩⟩,
        ⟨0, false, [], ⟨none, some 54, .fld 2 (.t 53)⟩⟩,
        ⟨0, false, [], ⟨none, some 55, .ld1 (.t 54)⟩⟩,
        ⟨0, false, [], ⟨none, some 56, .bin .sub (.t 50) (.t 55)⟩⟩,
        ⟨0, false, [], ⟨none, some 57, .idx 1 (.t 37) (.t 42)⟩⟩,
        ⟨2, false, [], ⟨none, none, .st1 (.t 57) (.t 56)⟩⟩])))
    (.reg [
      ⟨none, some 14, .mv (.t 4)⟩,
      ⟨none, some 15, .bin .add (.t 14) (.k (.c (.i 1)))⟩,
      ⟨none, some 4, .mv (.t 15)⟩]))))))
 (.seq (.reg [
    ⟨none, some 58, .mv (.t 3)⟩,
    ⟨none, some 2, .mv (.t 58)⟩])
 (.ret)))))
theorem h_spec_BalancesOf : Has Try.prog n_spec_BalancesOf 59 c_spec_BalancesOf [.t 2] := ⟨by decide, Try.f42, _, Try.func42, rfl, rfl, by kernel_rfl, by kernel_rfl⟩

def c_laws_markEntryS : SC :=
 .seq (.reg [
    ⟨none, some 4, .mv (.k (.c (.i 0)))⟩])
 (.seq (.seq (.reg [
     ⟨none, some 5, .mv (.k (.c (.i 0)))⟩])
  (.block 0 (.loop (.seq (.seq (.reg [
        ⟨none, some 6, .mv (.t 5)⟩,
        ⟨none, some 7, .mv (.t 0)⟩,
        ⟨none, some 8, .len (.t 7)⟩,
        ⟨none, some 9, .bin .lss (.t 6) (.t 8)⟩])
     (.cond (.t 9)
      (.skip)
      (.exit 0)))
    (.seq (.block 1 (.seq (.reg [
         ⟨none, some 12, .mv (.t 0)⟩,
         ⟨none, some 13, .mv (.t 5)⟩,
         ⟨none, some 14, .mv (.t 1)⟩,
         ⟨none, some 15, .idx 5 (.t 12) (.t 13)⟩,
         ⟨none, some 16, .fld 0 (.t 15)⟩,
         ⟨none, none, .st1 (.t 16) (.t 14)⟩])
      (.seq (.reg [
         ⟨none, some 17, .mv (.t 1)⟩,
         ⟨none, some 18, .bin .add (.t 17) (.k (.c (.i 1)))⟩,
         ⟨none, some 1, .mv (.t 18)⟩])
      (.seq (.reg [
         ⟨none, some 19, .mv (.t 0)⟩,
         ⟨none, some 20, .mv (.t 5)⟩,
         ⟨none, some 21, .mv (.t 1)⟩,
         ⟨none, some 22, .idx 5 (.t 19) (.t 20)⟩,
         ⟨none, some 23, .fld 1 (.t 22)⟩,
         ⟨none, none, .st1 (.t 23) (.t 21)⟩])
      (.seq (.reg [
         ⟨none, some 24, .mv (.t 1)⟩,
         ⟨none, some 25, .bin .add (.t 24) (.k (.c (.i 1)))⟩,
         ⟨none, some 1, .mv (.t 25)⟩])
      (.seq (.reg [
         ⟨none, some 26, .mv (.t 0)⟩,
         ⟨none, some 27, .mv (.t 5)⟩,
         ⟨none, some 28, .mv (.t 1)⟩,
         ⟨none, some 29, .idx 5 (.t 26) (.t 27)⟩,
         ⟨none, some 30, .fld 2 (.t 29)⟩,
         ⟨none, none, .st1 (.t 30) (.t 28)⟩])
      (.seq (.reg [
         ⟨none, some 31, .mv (.t 1)⟩,
         ⟨none, some 32, .bin .add (.t 31) (.k (.c (.i 1)))⟩,
         ⟨none, some 1, .mv (.t 32)⟩])
      (.seq (.reg [
         ⟨none, some 33, .mv (.t 0)⟩,
         ⟨none, some 34, .mv (.t 5)⟩,
         ⟨none, some 35, .mv (.t 1)⟩,
         ⟨none, some 36, .idx 5 (.t 33) (.t 34)⟩,
         ⟨none, some 37, .fld 3 (.t 36)⟩,
         ⟨none, none, .st1 (.t 37) (.t 35)⟩])
      (.seq (.reg [
         ⟨none, some 38, .mv (.t 1)⟩,
         ⟨none, some 39, .bin .add (.t 38) (.k (.c (.i 1)))⟩,
         ⟨none, some 1, .mv (.t 39)⟩])
      (.seq (.reg [
         ⟨none, some 40, .mv (.t 0)⟩,
         ⟨none, some 41, .mv (.t 5)⟩,
         ⟨none, some 42, .mv (.t 1)⟩,
         ⟨none, some 43, .idx 5 (.t 40) (.t 41)⟩,
         ⟨none, some 44, .fld 4 (.t 43)⟩,
         ⟨none, none, .st1 (.t 44) (.t 42)⟩])
      (.reg [
        ⟨none, some 45, .mv (.t 1)⟩,
        ⟨none, some 46, .bin .add (.t 45) (.k (.c (.i 1)))⟩,
        ⟨none, some 1, .mv (.t 46)⟩])))))))))))
    (.reg [
      ⟨none, some 10, .mv (.t 5)⟩,
      ⟨none, some 11, .bin .add (.t 10) (.k (.c (.i 1)))⟩,
      ⟨none, some 5, .mv (.t 11)⟩]))))))
 (.seq (.reg [
    ⟨none, some 47, .mv (.t 1)⟩,
    ⟨none, some 4, .mv (.t 47)⟩])
 (.ret)))
theorem h_laws_markEntryS : Has Try.prog n_laws_markEntryS 48 c_laws_markEntryS [.t 4] := ⟨by decide, Try.f45, _, Try.func45, rfl, rfl, by kernel_rfl, by kernel_rfl⟩

def c_laws_markIntS : SC :=
 .seq (.reg [
    ⟨none, some 4, .mv (.k (.c (.i 0)))⟩])
 (.seq (.seq (.reg [
     ⟨none, some 5, .mv (.k (.c (.i 0)))⟩])
  (.block 0 (.loop (.seq (.seq (.reg [
        ⟨none, some 6, .mv (.t 5)⟩,
        ⟨none, some 7, .mv (.t 0)⟩,
        ⟨none, some 8, .len (.t 7)⟩,
        ⟨none, some 9, .bin .lss (.t 6) (.t 8)⟩])
     (.cond (.t 9)
      (.skip)
      (.exit 0)))
    (.seq (.block 1 (.seq (.reg [
         ⟨none, some 12, .mv (.t 0)⟩,
         ⟨none, some 13, .mv (.t 5)⟩,
         ⟨none, some 14, .mv (.t 1)⟩,
         ⟨none, some 15, .idx 1 (.t 12) (.t 13)⟩,
         ⟨none, none, .st1 (.t 15) (.t 14)⟩])
      (.reg [
        ⟨none, some 16, .mv (.t 1)⟩,
        ⟨none, some 17, .bin .add (.t 16) (.k (.c (.i 1)))⟩,
        ⟨none, some 1, .mv (.t 17)⟩])))
    (.reg [
      ⟨none, some 10, .mv (.t 5)⟩,
      ⟨none, some 11, .bin .add (.t 10) (.k (.c (.i 1)))⟩,
      ⟨none, some 5, .mv (.t 11)⟩]))))))
 (.seq (.reg [
    ⟨none, some 18, .mv (.t 1)⟩,
    ⟨none, some 4, .mv (.t 18)⟩])
 (.ret)))
theorem h_laws_markIntS : Has Try.prog n_laws_markIntS 19 c_laws_markIntS [.t 4] := ⟨by decide, Try.f46, _, Try.func46, rfl, rfl, by kernel_rfl, by kernel_rfl⟩

def c_laws_heldIntS : SC :=
 .seq (.reg [
    ⟨none, some 4, .mv (.k (.c (.i 0)))⟩])
 (.seq (.seq (.reg [
     ⟨none, some 5, .mv (.k (.c (.i 0)))⟩])
  (.block 0 (.loop (.seq (.seq (.reg [
        ⟨none, some 6, .mv (.t 5)⟩,
        ⟨none, some 7, .mv (.t 0)⟩,
        ⟨none, some 8, .len (.t 7)⟩,
        ⟨none, some 9, .bin .lss (.t 6) (.t 8)⟩])
     (.cond (.t 9)
      (.skip)
      (.exit 0)))
    (.seq (.block 1 (.seq (.seq (.reg [
          ⟨none, some 12, .mv (.t 0)⟩,
          ⟨none, some 13, .mv (.t 5)⟩,
          ⟨none, some 14, .idx 1 (.t 12) (.t 13)⟩,
          ⟨none, some 15, .ld1 (.t 14)⟩,
          ⟨none, some 16, .mv (.t 1)⟩,
          ⟨none, some 17, .bin .neq (.t 15) (.t 16)⟩])
       (.cond (.t 17)
        (.seq (.reg [
            ⟨none, some 4, .mv (.k (.c (.i (-1))))⟩])
         (.ret))
        (.skip)))
      (.reg [
        ⟨none, some 18, .mv (.t 1)⟩,
        ⟨none, some 19, .bin .add (.t 18) (.k (.c (.i 1)))⟩,
        ⟨none, some 1, .mv (.t 19)⟩])))
    (.reg [
      ⟨none, some 10, .mv (.t 5)⟩,
      ⟨none, some 11, .bin .add (.t 10) (.k (.c (.i 1)))⟩,
      ⟨none, some 5, .mv (.t 11)⟩]))))))
 (.seq (.reg [
    ⟨none, some 20, .mv (.t 1)⟩,
    ⟨none, some 4, .mv (.t 20)⟩])
 (.ret)))
theorem h_laws_heldIntS : Has Try.prog n_laws_heldIntS 21 c_laws_heldIntS [.t 4] := ⟨by decide, Try.f47, _, Try.func47, rfl, rfl, by kernel_rfl, by kernel_rfl⟩

def c_laws_FnExactSettleUp : SC :=
 .seq (.reg [
    ⟨none, some 4, .mv (.k (.c (.b false)))⟩])
 (.seq (.seq (.reg [
     ⟨none, some 12, .mv (.t 0)⟩,
     ⟨none, some 13, .len (.t 12)⟩,
     ⟨none, some 14, .bin .gtr (.t 13) (.k (.c (.i 1048576)))⟩])
  (.cond (.t 14)
   (.seq (.reg [
       ⟨none, some 4, .mv (.k (.c (.b true)))⟩])
    (.ret))
   (.skip)))
 (.seq (.reg [
    ⟨none, some 15, .mv (.t 0)⟩,
    ⟨none, some 16, .call n_laws_toIntS [.t 15]⟩,
    ⟨none, some 17, .mv (.t 1)⟩,
    ⟨none, some 18, .call n_spec_SettleUp [.t 16, .t 17]⟩,
    ⟨none, some 5, .mv (.t 18)⟩])
 (.seq (.reg [
    ⟨none, some 19, .mv (.t 0)⟩,
    ⟨none, some 20, .call n_laws_toIntS [.t 19]⟩,
    ⟨none, some 6, .mv (.t 20)⟩])
 (.seq (.reg [
    ⟨none, some 21, .mv (.t 6)⟩,
    ⟨none, some 22, .mv (.t 1)⟩,
    ⟨none, some 23, .call n_impl_SettleUp [.t 21, .t 22]⟩,
    ⟨none, some 7, .mv (.t 23)⟩])
 (.seq (.seq (.reg [
     ⟨none, some 24, .mv (.t 7)⟩,
     ⟨none, some 25, .mv (.t 5)⟩,
     ⟨none, some 26, .call n_laws_eqEntryS [.t 24, .t 25]⟩,
     ⟨none, some 27, .not (.t 26)⟩])
  (.cond (.t 27)
   (.seq (.reg [
       ⟨none, some 4, .mv (.k (.c (.b false)))⟩])
    (.ret))
   (.skip)))
 (.seq (.seq (.reg [
     ⟨none, some 28, .mv (.t 6)⟩,
     ⟨none, some 29, .mv (.t 0)⟩,
     ⟨none, some 30, .call n_laws_toIntS [.t 29]⟩,
     ⟨none, some 31, .call n_laws_eqIntS [.t 28, .t 30]⟩,
     ⟨none, some 32, .not (.t 31)⟩])
  (.cond (.t 32)
   (.seq (.reg [
       ⟨none, some 4, .mv (.k (.c (.b false)))⟩])
    (.ret))
   (.skip)))
 (.seq (.reg [
    ⟨none, some 8, .mv (.k (.c (.i 1)))⟩])
 (.seq (.reg [
    ⟨none, some 33, .mv (.t 6)⟩,
    ⟨none, some 34, .mv (.t 8)⟩,
    ⟨none, some 35, .call n_laws_markIntS [.t 33, .t 34]⟩,
    ⟨none, some 8, .mv (.t 35)⟩])
 (.seq (.seq (.reg [
     ⟨none, some 36, .mv (.t 8)⟩,
     ⟨none, some 37, .bin .lss (.t 36) (.k (.c (.i 0)))⟩,
     ⟨none, some 38, .mv (.t 37)⟩,
     ⟨some (38, false), some 39, .mv (.t 7)⟩,
     ⟨some (38, false), some 40, .mv (.t 5)⟩,
     ⟨some (38, false), some 41, .call n_laws_eqEntryS [.t 39, .t 40]⟩,
     ⟨some (38, false), some 42, .not (.t 41)⟩,
     ⟨none, some 43, .pick (.t 38) (.k (.c (.b true))) (.t 42)⟩])
  (.cond (.t 43)
   (.seq (.reg [
       ⟨none, some 4, .mv (.k (.c (.b false)))⟩])
    (.ret))
   (.skip)))
 (.seq (.reg [
    ⟨none, some 9, .mv (.k (.c (.i 1)))⟩])
 (.seq (.reg [
    ⟨none, some 44, .mv (.t 7)⟩,
    ⟨none, some 45, .mv (.t 9)⟩,
    ⟨none, some 46, .call n_laws_markEntryS [.t 44, .t 45]⟩,
    ⟨none, some 9, .mv (.t 46)⟩])
 (.seq (.reg [
    ⟨none, some 10, .mv (.k (.c (.i 1)))⟩])
 (.seq (.reg [
    ⟨none, some 47, .mv (.t 7)⟩,
    ⟨none, some 48, .mv (.t 10)⟩,
    ⟨none, some 49, .call n_laws_heldEntryS [.t 47, .t 48]⟩,
    ⟨none, some 10, .mv (.t 49)⟩])
 (.seq (.seq (.reg [
     ⟨none, some 50, .mv (.t 10)⟩,
     ⟨none, some 51, .bin .lss (.t 50) (.k (.c (.i 0)))⟩])
  (.cond (.t 51)
   (.seq (.reg [
       ⟨none, some 4, .mv (.k (.c (.b false)))⟩])
    (.ret))
   (.skip)))
 (.seq (.seq (.reg [
     ⟨none, some 52, .mv (.t 10)⟩,
     ⟨none, some 53, .mv (.t 9)⟩,
     ⟨none, some 54, .bin .neq (.t 52) (.t 53)⟩])
  (.cond (.t 54)
   (.seq (.reg [
       ⟨none, some 4, .mv (.k (.c (.b false)))⟩])
    (.ret))
   (.skip)))
 (.seq (.reg [
    ⟨none, some 55, .mv (.t 0)⟩,
    ⟨none, some 56, .call n_laws_toIntS [.t 55]⟩,
    ⟨none, some 57, .mv (.t 1)⟩,
    ⟨none, some 58, .call n_impl_SettleUp [.t 56, .t 57]⟩,
    ⟨none, some 11, .mv (.t 58)⟩])
 (.seq (.seq (.reg [
     ⟨none, some 59, .mv (.t 11)⟩,
     ⟨none, some 60, .mv (.t 5)⟩,
     ⟨none, some 61, .call n_laws_eqEntryS [.t 59, .t 60]⟩,
     ⟨none, some 62, .not (.t 61)⟩])
  (.cond (.t 62)
   (.seq (.reg [
       ⟨none, some 4, .mv (.k (.c (.b false)))⟩])
    (.ret))
   (.skip)))
 (.seq (.reg [
    ⟨none, some 10, .mv (.k (.c (.i 1)))⟩])
 (.seq (.reg [
    ⟨none, some 63, .mv (.t 7)⟩,
    ⟨none, some 64, .mv (.t 10)⟩,
    ⟨none, some 65, .call n_laws_heldEntryS [.t 63, .t 64]⟩,
    ⟨none, some 10, .mv (.t 65)⟩])
 (.seq (.seq (.reg [
     ⟨none, some 66, .mv (.t 10)⟩,
     ⟨none, some 67, .bin .lss (.t 66) (.k (.c (.i 0)))⟩])
  (.cond (.t 67)
   (.seq (.reg [
       ⟨none, some 4, .mv (.k (.c (.b false)))⟩])
    (.ret))
   (.skip)))
 (.seq (.seq (.reg [
     ⟨none, some 68, .mv (.t 10)⟩,
     ⟨none, some 69, .mv (.t 9)⟩,
     ⟨none, some 70, .bin .neq (.t 68) (.t 69)⟩])
  (.cond (.t 70)
   (.seq (.reg [
       ⟨none, some 4, .mv (.k (.c (.b false)))⟩])
    (.ret))
   (.skip)))
 (.seq (.reg [
    ⟨none, some 4, .mv (.k (.c (.b true)))⟩])
 (.ret)))))))))))))))))))))))
theorem h_laws_FnExactSettleUp : Has Try.prog n_laws_FnExactSettleUp 71 c_laws_FnExactSettleUp [.t 4] := ⟨by decide, Try.f11, _, Try.func11, rfl, rfl, by kernel_rfl, by kernel_rfl⟩

def c_laws_heldEntryS : SC :=
 .seq (.reg [
    ⟨none, some 4, .mv (.k (.c (.i 0)))⟩])
 (.seq (.seq (.reg [
     ⟨none, some 5, .mv (.k (.c (.i 0)))⟩])
  (.block 0 (.loop (.seq (.seq (.reg [
        ⟨none, some 6, .mv (.t 5)⟩,
        ⟨none, some 7, .mv (.t 0)⟩,
        ⟨none, some 8, .len (.t 7)⟩,
        ⟨none, some 9, .bin .lss (.t 6) (.t 8)⟩])
     (.cond (.t 9)
      (.skip)
      (.exit 0)))
    (.seq (.block 1 (.seq (.seq (.reg [
          ⟨none, some 12, .mv (.t 0)⟩,
          ⟨none, some 13, .mv (.t 5)⟩,
          ⟨none, some 14, .idx 5 (.t 12) (.t 13)⟩,
          ⟨none, some 15, .fld 0 (.t 14)⟩,
          ⟨none, some 16, .ld1 (.t 15)⟩,
          ⟨none, some 17, .mv (.t 1)⟩,
          ⟨none, some 18, .bin .neq (.t 16) (.t 17)⟩])
       (.cond (.t 18)
        (.seq (.reg [
            ⟨none, some 4, .mv (.k (.c (.i (-1))))⟩])
         (.ret))
        (.skip)))
      (.seq (.reg [
         ⟨none, some 19, .mv (.t 1)⟩,
         ⟨none, some 20, .bin .add (.t 19) (.k (.c (.i 1)))⟩,
         ⟨none, some 1, .mv (.t 20)⟩])
      (.seq (.seq (.reg [
          ⟨none, some 21, .mv (.t 0)⟩,
          ⟨none, some 22, .mv (.t 5)⟩,
          ⟨none, some 23, .idx 5 (.t 21) (.t 22)⟩,
          ⟨none, some 24, .fld 1 (.t 23)⟩,
          ⟨none, some 25, .ld1 (.t 24)⟩,
          ⟨none, some 26, .mv (.t 1)⟩,
          ⟨none, some 27, .bin .neq (.t 25) (.t 26)⟩])
       (.cond (.t 27)
        (.seq (.reg [
            ⟨none, some 4, .mv (.k (.c (.i (-1))))⟩])
         (.ret))
        (.skip)))
      (.seq (.reg [
         ⟨none, some 28, .mv (.t 1)⟩,
         ⟨none, some 29, .bin .add (.t 28) (.k (.c (.i 1)))⟩,
         ⟨none, some 1, .mv (.t 29)⟩])
      (.seq (.seq (.reg [
          ⟨none, some 30, .mv (.t 0)⟩,
          ⟨none, some 31, .mv (.t 5)⟩,
          ⟨none, some 32, .idx 5 (.t 30) (.t 31)⟩,
          ⟨none, some 33, .fld 2 (.t 32)⟩,
          ⟨none, some 34, .ld1 (.t 33)⟩,
          ⟨none, some 35, .mv (.t 1)⟩,
          ⟨none, some 36, .bin .neq (.t 34) (.t 35)⟩])
       (.cond (.t 36)
        (.seq (.reg [
            ⟨none, some 4, .mv (.k (.c (.i (-1))))⟩])
         (.ret))
        (.skip)))
      (.seq (.reg [
         ⟨none, some 37, .mv (.t 1)⟩,
         ⟨none, some 38, .bin .add (.t 37) (.k (.c (.i 1)))⟩,
         ⟨none, some 1, .mv (.t 38)⟩])
      (.seq (.seq (.reg [
          ⟨none, some 39, .mv (.t 0)⟩,
          ⟨none, some 40, .mv (.t 5)⟩,
          ⟨none, some 41, .idx 5 (.t 39) (.t 40)⟩,
          ⟨none, some 42, .fld 3 (.t 41)⟩,
          ⟨none, some 43, .ld1 (.t 42)⟩,
          ⟨none, some 44, .mv (.t 1)⟩,
          ⟨none, some 45, .bin .neq (.t 43) (.t 44)⟩])
       (.cond (.t 45)
        (.seq (.reg [
            ⟨none, some 4, .mv (.k (.c (.i (-1))))⟩])
         (.ret))
        (.skip)))
      (.seq (.reg [
         ⟨none, some 46, .mv (.t 1)⟩,
         ⟨none, some 47, .bin .add (.t 46) (.k (.c (.i 1)))⟩,
         ⟨none, some 1, .mv (.t 47)⟩])
      (.seq (.seq (.reg [
          ⟨none, some 48, .mv (.t 0)⟩,
          ⟨none, some 49, .mv (.t 5)⟩,
          ⟨none, some 50, .idx 5 (.t 48) (.t 49)⟩,
          ⟨none, some 51, .fld 4 (.t 50)⟩,
          ⟨none, some 52, .ld1 (.t 51)⟩,
          ⟨none, some 53, .mv (.t 1)⟩,
          ⟨none, some 54, .bin .neq (.t 52) (.t 53)⟩])
       (.cond (.t 54)
        (.seq (.reg [
            ⟨none, some 4, .mv (.k (.c (.i (-1))))⟩])
         (.ret))
        (.skip)))
      (.reg [
        ⟨none, some 55, .mv (.t 1)⟩,
        ⟨none, some 56, .bin .add (.t 55) (.k (.c (.i 1)))⟩,
        ⟨none, some 1, .mv (.t 56)⟩])))))))))))
    (.reg [
      ⟨none, some 10, .mv (.t 5)⟩,
      ⟨none, some 11, .bin .add (.t 10) (.k (.c (.i 1)))⟩,
      ⟨none, some 5, .mv (.t 11)⟩]))))))
 (.seq (.reg [
    ⟨none, some 57, .mv (.t 1)⟩,
    ⟨none, some 4, .mv (.t 57)⟩])
 (.ret)))
theorem h_laws_heldEntryS : Has Try.prog n_laws_heldEntryS 58 c_laws_heldEntryS [.t 4] := ⟨by decide, Try.f58, _, Try.func58, rfl, rfl, by kernel_rfl, by kernel_rfl⟩

def c_spec_SettleUp : SC :=
 .seq (.reg [
    ⟨none, some 4, .mv (.k (.nil 5))⟩])
 (.seq (.reg [
    ⟨none, some 13, .bsl 5 []⟩,
    ⟨none, some 5, .mv (.t 13)⟩])
 (.seq (.reg [
    ⟨none, some 14, .bsl 1 []⟩,
    ⟨none, some 15, .mv (.t 0)⟩,
    ⟨none, some 16, .app 1 8 (.t 14) (.t 15)⟩,
    ⟨none, some 6, .mv (.t 16)⟩])
 (.seq (.reg [
    ⟨none, some 7, .mv (.k (.c (.i 0)))⟩])
 (.seq (.seq (.reg [
     ⟨none, some 8, .mv (.k (.c (.i 0)))⟩])
  (.block 0 (.loop (.seq (.seq (.reg [
        ⟨none, some 17, .mv (.t 8)⟩,
        ⟨none, some 18, .mv (.t 6)⟩,
        ⟨none, some 19, .len (.t 18)⟩,
        ⟨none, some 20, .bin .lss (.t 17) (.t 19)⟩])
     (.cond (.t 20)
      (.skip)
      (.exit 0)))
    (.seq (.block 1 (.seq (.seq (.reg [
          ⟨none, some 23, .mv (.t 6)⟩,
          ⟨none, some 24, .mv (.t 8)⟩,
          ⟨none, some 25, .idx 1 (.t 23) (.t 24)⟩,
          ⟨none, some 26, .ld1 (.t 25)⟩,
          ⟨none, some 27, .call n_spec_l01In [.t 26, .k (.c (.i (-1000000000))), .k (.c (.i 1000000000))]⟩,
          ⟨none, some 28, .not (.t 27)⟩,
          ⟨none, some 29, .mv (.t 28)⟩,
          ⟨some (29, false), some 30, .mv (.t 6)⟩,
          ⟨some (29, false), some 31, .len (.t 30)⟩,
          ⟨some (29, false), some 32, .bin .gtr (.t 31) (.k (.c (.i 12)))⟩,
          ⟨none, some 33, .pick (.t 29) (.k (.c (.b true))) (.t 32)⟩])
       (.cond (.t 33)
        (.seq (.reg [
            ⟨none, some 34, .mv (.t 5)⟩,
            ⟨none, some 4, .mv (.t 34)⟩])
         (.ret))
        (.skip)))
      (.reg [
        ⟨none, some 35, .mv (.t 7)⟩,
        ⟨none, some 36, .mv (.t 6)⟩,
        ⟨none, some 37, .mv (.t 8)⟩,
        ⟨none, some 38, .idx 1 (.t 36) (.t 37)⟩,
        ⟨none, some 39, .ld1 (.t 38)⟩,
        ⟨none, some 40, .bin .add (.t 35) (.t 39)⟩,
        ⟨none, some 7, .mv (.t 40)⟩])))
    (.reg [
      ⟨none, some 21, .mv (.t 8)⟩,
      ⟨none, some 22, .bin .add (.t 21) (.k (.c (.i 1)))⟩,
      ⟨none, some 8, .mv (.t 22)⟩]))))))
 (.seq (.seq (.reg [
     ⟨none, some 41, .mv (.t 7)⟩,
     ⟨none, some 42, .bin .neq (.t 41) (.k (.c (.i 0)))⟩,
     ⟨none, some 43, .mv (.t 42)⟩,
     ⟨some (43, false), some 44, .mv (.t 1)⟩,
     ⟨some (43, false), some 45, .call n_spec_l01In [.t 44, .k (.c (.i 0)), .k (.c (.i 1000000))]⟩,
     ⟨some (43, false), some 46, .not (.t 45)⟩,
     ⟨none, some 47, .pick (.t 43) (.k (.c (.b true))) (.t 46)⟩])
  (.cond (.t 47)
   (.seq (.reg [
       ⟨none, some 48, .mv (.t 5)⟩,
       ⟨none, some 4, .mv (.t 48)⟩])
    (.ret))
   (.skip)))
 (.block 2 (.loop (.block 3 (.seq (.reg [
       ⟨none, some 9, .mv (.k (.c (.i 0)))⟩])
    (.seq (.reg [
       ⟨none, some 10, .mv (.k (.c (.i 0)))⟩])
    (.seq (.seq (.reg [
        ⟨none, some 11, .mv (.k (.c (.i 0)))⟩])
     (.block 4 (.loop (.seq (.seq (.reg [
           ⟨none, some 49, .mv (.t 11)⟩,
           ⟨none, some 50, .mv (.t 6)⟩,
           ⟨none, some 51, .len (.t 50)⟩,
           ⟨none, some 52, .bin .lss (.t 49) (.t 51)⟩])
        (.cond (.t 52)
         (.skip)
         (.exit 4)))
       (.seq (.block 5 (.seq (.seq (.regq [
             ⟨none, some 55, .mv (.t 6)⟩,
             ⟨none, some 56, .mv (.t 11)⟩,
             ⟨none, some 57, .idx 1 (.t 55) (.t 56)⟩,
             ⟨none, some 58, .ld1 (.t 57)⟩,
             ⟨none, some 59, .mv (.t 6)⟩,
             ⟨none, some 60, .mv (.t 9)⟩,
             ⟨none, some 61, .idx 1 (.t 59) (.t 60)⟩,
             ⟨none, some 62, .ld1 (.t 61)⟩,
             ⟨none, some 63, .bin .gtr (.t 58) (.t 62)⟩])
          (.cond (.t 63)
           (.reg [
              ⟨none, some 64, .mv (.t 11)⟩,
              ⟨none, some 9, .mv (.t 64)⟩])
           (.skip)))
         (.seq (.regq [
            ⟨none, some 65, .mv (.t 6)⟩,
            ⟨none, some 66, .mv (.t 11)⟩,
            ⟨none, some 67, .idx 1 (.t 65) (.t 66)⟩,
            ⟨none, some 68, .ld1 (.t 67)⟩,
            ⟨none, some 69, .mv (.t 6)⟩,
            ⟨none, some 70, .mv (.t 10)⟩,
            ⟨none, some 71, .idx 1 (.t 69) (.t 70)⟩,
            ⟨none, some 72, .ld1 (.t 71)⟩,
            ⟨none, some 73, .bin .lss (.t 68) (.t 72)⟩])
         (.cond (.t 73)
          (.reg [
             ⟨none, some 74, .mv (.t 11)⟩,
             ⟨none, some 10, .mv (.t 74)⟩])
          (.skip)))))
       (.reg [
         ⟨none, some 53, .mv (.t 11)⟩,
         ⟨none, some 54, .bin .add (.t 53) (.k (.c (.i 1)))⟩,
         ⟨none, some 11, .mv (.t 54)⟩]))))))
    (.seq (.seq (.reg [
        ⟨none, some 75, .mv (.t 6)⟩,
        ⟨none, some 76, .len (.t 75)⟩,
        ⟨none, some 77, .bin .eql (.t 76) (.k (.c (.i 0)))⟩,
        ⟨none, some 78, .mv (.t 77)⟩,
        ⟨some (78, false), some 79, .mv (.t 6)⟩,
        ⟨some (78, false), some 80, .mv (.t 9)⟩,
        ⟨some (78, false), some 81, .idx 1 (.t 79) (.t 80)⟩,
        ⟨some (78, false), some 82, .ld1 (.t 81)⟩,
        ⟨some (78, false), some 83, .bin .eql (.t 82) (.k (.c (.i 0)))⟩,
        ⟨none, some 84, .pick (.t 78) (.k (.c (.b true))) (.t 83)⟩])
     (.cond (.t 84)
      (.seq (.reg [
          ⟨none, some 85, .mv (.t 5)⟩,
          ⟨none, some 4, .mv (.t 85)⟩])
       (.ret))
      (.skip)))
    (.seq (.regq [
       ⟨none, some 86, .mv (.t 6)⟩,
       ⟨none, some 87, .mv (.t 9)⟩,
       ⟨none, some 88, .idx 1 (.t 86) (.t 87)⟩,
       ⟨none, some 89, .ld1 (.t 88)⟩,
       ⟨none, some 90, .mv (.t 6)⟩,
       ⟨none, some 91, .mv (.t 10)⟩,
       ⟨none, some 92, .idx 1 (.t 90) (.t 91)⟩,
       ⟨none, some 93, .ld1 (.t 92)⟩,
       ⟨none, some 94, .neg (.t 93)⟩,
       ⟨none, some 95, .mn [.t 89, .t 94]⟩,
       ⟨none, some 12, .mv (.t 95)⟩])
    (.seq (.reg [
       ⟨none, some 96, .mv (.t 5)⟩,
       ⟨none, some 97, .mv (.t 9)⟩,
       ⟨none, some 98, .mv (.t 10)⟩,
       ⟨none, some 99, .mv (.t 12)⟩,
       ⟨none, some 100, .mv (.t 1)⟩,
       ⟨none, some 101, .bld [.c (.i 0), .c (.i 0), .c (.i 0), .c (.i 0), .c (.i 0)] [(0, 1, .t 97), (1, 1, .t 98), (2, 1, .t 99), (3, 1, .t 100)]⟩,
       ⟨none, some 102, .bsl 5 [.t 101]⟩,
       ⟨none, some 103, .app 5 40 (.t 96) (.t 102)⟩,
       ⟨none, some 5, .mv (.t 103)⟩])
    (.seq (.reg [
       ⟨none, some 104, .mv (.t 6)⟩,
       ⟨none, some 105, .mv (.t 9)⟩,
       ⟨none, some 106, .mv (.t 6)⟩,
       ⟨none, some 107, .mv (.t 9)⟩,
       ⟨none, some 108, .idx 1 (.t 106) (.t 107)⟩,
       ⟨none, some 109, .ld1 (.t 108)⟩,
       ⟨none, some 110, .mv (.t 12)⟩,
       ⟨none, some 111, .bin .sub (.t 109) (.t 110)⟩,
       ⟨none, some 112, .idx 1 (.t 104) (.t 105)⟩,
       ⟨none, none, .st1 (.t 112) (.t 111)⟩])
    (.reg [
      ⟨none, some 113, .mv (.t 6)⟩,
      ⟨none, some 114, .mv (.t 10)⟩,
      ⟨none, some 115, .mv (.t 6)⟩,
      ⟨none, some 116, .mv (.t 10)⟩,
      ⟨none, some 117, .idx 1 (.t 115) (.t 116)⟩,
      ⟨none, some 118, .ld1 (.t 117)⟩,
      ⟨none, some 119, .mv (.t 12)⟩,
      ⟨none, some 120, .bin .add (.t 118) (.t 119)⟩,
      ⟨none, some 121, .idx 1 (.t 113) (.t 114)⟩,
      ⟨none, none, .st1 (.t 121) (.t 120)⟩]))))))))))))))))
theorem h_spec_SettleUp : Has Try.prog n_spec_SettleUp 122 c_spec_SettleUp [.t 4] := ⟨by decide, Try.f59, _, Try.func59, rfl, rfl, by kernel_rfl, by kernel_rfl⟩

def c_laws_FnExactPostEntries : SC :=
 .seq (.reg [
    ⟨none, some 4, .mv (.k (.c (.b false)))⟩])
 (.seq (.reg [
    ⟨none, some 5, .mv (.k (.c (.i 1048576)))⟩])
 (.seq (.reg [
    ⟨none, some 17, .mv (.t 0)⟩,
    ⟨none, some 18, .mv (.t 5)⟩,
    ⟨none, some 19, .call n_laws_szEntryS [.t 17, .t 18]⟩,
    ⟨none, some 5, .mv (.t 19)⟩])
 (.seq (.seq (.reg [
     ⟨none, some 20, .mv (.t 5)⟩,
     ⟨none, some 21, .bin .lss (.t 20) (.k (.c (.i 0)))⟩])
  (.cond (.t 21)
   (.seq (.reg [
       ⟨none, some 4, .mv (.k (.c (.b true)))⟩])
    (.ret))
   (.skip)))
 (.seq (.reg [
    ⟨none, some 22, .mv (.t 1)⟩,
    ⟨none, some 23, .mv (.t 5)⟩,
    ⟨none, some 24, .call n_laws_szEntryS [.t 22, .t 23]⟩,
    ⟨none, some 5, .mv (.t 24)⟩])
 (.seq (.seq (.reg [
     ⟨none, some 25, .mv (.t 5)⟩,
     ⟨none, some 26, .bin .lss (.t 25) (.k (.c (.i 0)))⟩])
  (.cond (.t 26)
   (.seq (.reg [
       ⟨none, some 4, .mv (.k (.c (.b true)))⟩])
    (.ret))
   (.skip)))
 (.seq (.reg [
    ⟨none, some 28, .mv (.t 0)⟩,
    ⟨none, some 29, .call n_laws_toEntryS [.t 28]⟩,
    ⟨none, some 30, .mv (.t 1)⟩,
    ⟨none, some 31, .call n_laws_toEntryS [.t 30]⟩,
    ⟨none, some 32, .call n_spec_PostEntries [.t 29, .t 31]⟩,
    ⟨none, some 27, .mv (.t 32)⟩,
    ⟨none, some 33, .ext 0 (.t 27)⟩,
    ⟨none, some 34, .ext 1 (.t 27)⟩,
    ⟨none, some 6, .mv (.t 33)⟩,
    ⟨none, some 7, .mv (.t 34)⟩])
 (.seq (.reg [
    ⟨none, some 35, .mv (.t 0)⟩,
    ⟨none, some 36, .call n_laws_toEntryS [.t 35]⟩,
    ⟨none, some 8, .mv (.t 36)⟩])
 (.seq (.reg [
    ⟨none, some 37, .mv (.t 1)⟩,
    ⟨none, some 38, .call n_laws_toEntryS [.t 37]⟩,
    ⟨none, some 9, .mv (.t 38)⟩])
 (.seq (.reg [
    ⟨none, some 40, .mv (.t 8)⟩,
    ⟨none, some 41, .mv (.t 9)⟩,
    ⟨none, some 42, .call n_impl_PostEntries [.t 40, .t 41]⟩,
    ⟨none, some 39, .mv (.t 42)⟩,
    ⟨none, some 43, .ext 0 (.t 39)⟩,
    ⟨none, some 44, .ext 1 (.t 39)⟩,
    ⟨none, some 10, .mv (.t 43)⟩,
    ⟨none, some 11, .mv (.t 44)⟩])
 (.seq (.seq (.reg [
     ⟨none, some 45, .mv (.t 10)⟩,
     ⟨none, some 46, .mv (.t 6)⟩,
     ⟨none, some 47, .call n_laws_eqEntryS [.t 45, .t 46]⟩,
     ⟨none, some 48, .not (.t 47)⟩,
     ⟨none, some 49, .mv (.t 48)⟩,
     ⟨some (49, false), some 50, .mv (.t 11)⟩,
     ⟨some (49, false), some 51, .mv (.t 7)⟩,
     ⟨some (49, false), some 52, .beq true (.t 50) (.t 51)⟩,
     ⟨none, some 53, .pick (.t 49) (.k (.c (.b true))) (.t 52)⟩])
  (.cond (.t 53)
   (.seq (.reg [
       ⟨none, some 4, .mv (.k (.c (.b false)))⟩])
    (.ret))
   (.skip)))
 (.seq (.seq (.reg [
     ⟨none, some 54, .mv (.t 8)⟩,
     ⟨none, some 55, .mv (.t 0)⟩,
     ⟨none, some 56, .call n_laws_toEntryS [.t 55]⟩,
     ⟨none, some 57, .call n_laws_eqEntryS [.t 54, .t 56]⟩,
     ⟨none, some 58, .not (.t 57)⟩])
  (.cond (.t 58)
   (.seq (.reg [
       ⟨none, some 4, .mv (.k (.c (.b false)))⟩])
    (.ret))
   (.skip)))
 (.seq (.seq (.reg [
     ⟨none, some 59, .mv (.t 9)⟩,
     ⟨none, some 60, .mv (.t 1)⟩,
     ⟨none, some 61, .call n_laws_toEntryS [.t 60]⟩,
     ⟨none, some 62, .call n_laws_eqEntryS [.t 59, .t 61]⟩,
     ⟨none, some 63, .not (.t 62)⟩])
  (.cond (.t 63)
   (.seq (.reg [
       ⟨none, some 4, .mv (.k (.c (.b false)))⟩])
    (.ret))
   (.skip)))
 (.seq (.reg [
    ⟨none, some 12, .mv (.k (.c (.i 1)))⟩])
 (.seq (.reg [
    ⟨none, some 64, .mv (.t 8)⟩,
    ⟨none, some 65, .mv (.t 12)⟩,
    ⟨none, some 66, .call n_laws_markEntryS [.t 64, .t 65]⟩,
    ⟨none, some 12, .mv (.t 66)⟩])
 (.seq (.reg [
    ⟨none, some 67, .mv (.t 9)⟩,
    ⟨none, some 68, .mv (.t 12)⟩,
    ⟨none, some 69, .call n_laws_markEntryS [.t 67, .t 68]⟩,
    ⟨none, some 12, .mv (.t 69)⟩])
 (.seq (.seq (.reg [
     ⟨none, some 70, .mv (.t 12)⟩,
     ⟨none, some 71, .bin .lss (.t 70) (.k (.c (.i 0)))⟩,
     ⟨none, some 72, .mv (.t 71)⟩,
     ⟨some (72, false), some 73, .mv (.t 10)⟩,
     ⟨some (72, false), some 74, .mv (.t 6)⟩,
     ⟨some (72, false), some 75, .call n_laws_eqEntryS [.t 73, .t 74]⟩,
     ⟨some (72, false), some 76, .not (.t 75)⟩,
     ⟨none, some 77, .pick (.t 72) (.k (.c (.b true))) (.t 76)⟩,
     ⟨none, some 78, .mv (.t 77)⟩,
     ⟨some (78, false), some 79, .mv (.t 11)⟩,
     ⟨some (78, false), some 80, .mv (.t 7)⟩,
     ⟨some (78, false), some 81, .beq true (.t 79) (.t 80)⟩,
     ⟨none, some 82, .pick (.t 78) (.k (.c (.b true))) (.t 81)⟩])
  (.cond (.t 82)
   (.seq (.reg [
       ⟨none, some 4, .mv (.k (.c (.b false)))⟩])
    (.ret))
   (.skip)))
 (.seq (.reg [
    ⟨none, some 13, .mv (.k (.c (.i 1)))⟩])
 (.seq (.reg [
    ⟨none, some 83, .mv (.t 10)⟩,
    ⟨none, some 84, .mv (.t 13)⟩,
    ⟨none, some 85, .call n_laws_markEntryS [.t 83, .t 84]⟩,
    ⟨none, some 13, .mv (.t 85)⟩])
 (.seq (.reg [
    ⟨none, some 14, .mv (.k (.c (.i 1)))⟩])
 (.seq (.reg [
    ⟨none, some 86, .mv (.t 10)⟩,
    ⟨none, some 87, .mv (.t 14)⟩,
    ⟨none, some 88, .call n_laws_heldEntryS [.t 86, .t 87]⟩,
    ⟨none, some 14, .mv (.t 88)⟩])
 (.seq (.seq (.reg [
     ⟨none, some 89, .mv (.t 14)⟩,
     ⟨none, some 90, .bin .lss (.t 89) (.k (.c (.i 0)))⟩])
  (.cond (.t 90)
   (.seq (.reg [
       ⟨none, some 4, .mv (.k (.c (.b false)))⟩])
    (.ret))
   (.skip)))
 (.seq (.seq (.reg [
     ⟨none, some 91, .mv (.t 14)⟩,
     ⟨none, some 92, .mv (.t 13)⟩,
     ⟨none, some 93, .bin .neq (.t 91) (.t 92)⟩])
  (.cond (.t 93)
   (.seq (.reg [
       ⟨none, some 4, .mv (.k (.c (.b false)))⟩])
    (.ret))
   (.skip)))
 (.seq (.reg [
    ⟨none, some 95, .mv (.t 0)⟩,
    ⟨none, some 96, .call n_laws_toEntryS [.t 95]⟩,
    ⟨none, some 97, .mv (.t 1)⟩,
    ⟨none, some 98, .call n_laws_toEntryS [.t 97]⟩,
    ⟨none, some 99, .call n_impl_PostEntries [.t 96, .t 98]⟩,
    ⟨none, some 94, .mv (.t 99)⟩,
    ⟨none, some 100, .ext 0 (.t 94)⟩,
    ⟨none, some 101, .ext 1 (.t 94)⟩,
    ⟨none, some 15, .mv (.t 100)⟩,
    ⟨none, some 16, .mv (.t 101)⟩])
 (.seq (.seq (.reg [
     ⟨none, some 102, .mv (.t 15)⟩,
     ⟨none, some 103, .mv (.t 6)⟩,
     ⟨none, some 104, .call n_laws_eqEntryS [.t 102, .t 103]⟩,
     ⟨none, some 105, .not (.t 104)⟩,
     ⟨none, some 106, .mv (.t 105)⟩,
     ⟨some (106, false), some 107, .mv (.t 16)⟩,
     ⟨some (106, false), some 108, .mv (.t 7)⟩,
     ⟨some (106, false), some 109, .beq true (.t 107) (.t 108)⟩,
     ⟨none, some 110, .pick (.t 106) (.k (.c (.b true))) (.t 109)⟩])
  (.cond (.t 110)
   (.seq (.reg [
       ⟨none, some 4, .mv (.k (.c (.b false)))⟩])
    (.ret))
   (.skip)))
 (.seq (.reg [
    ⟨none, some 14, .mv (.k (.c (.i 1)))⟩])
 (.seq (.reg [
    ⟨none, some 111, .mv (.t 10)⟩,
    ⟨none, some 112, .mv (.t 14)⟩,
    ⟨none, some 113, .call n_laws_heldEntryS [.t 111, .t 112]⟩,
    ⟨none, some 14, .mv (.t 113)⟩])
 (.seq (.seq (.reg [
     ⟨none, some 114, .mv (.t 14)⟩,
     ⟨none, some 115, .bin .lss (.t 114) (.k (.c (.i 0)))⟩])
  (.cond (.t 115)
   (.seq (.reg [
       ⟨none, some 4, .mv (.k (.c (.b false)))⟩])
    (.ret))
   (.skip)))
 (.seq (.seq (.reg [
     ⟨none, some 116, .mv (.t 14)⟩,
     ⟨none, some 117, .mv (.t 13)⟩,
     ⟨none, some 118, .bin .neq (.t 116) (.t 117)⟩])
  (.cond (.t 118)
   (.seq (.reg [
       ⟨none, some 4, .mv (.k (.c (.b false)))⟩])
    (.ret))
   (.skip)))
 (.seq (.reg [
    ⟨none, some 4, .mv (.k (.c (.b true)))⟩])
 (.ret))))))))))))))))))))))))))))))
theorem h_laws_FnExactPostEntries : Has Try.prog n_laws_FnExactPostEntries 119 c_laws_FnExactPostEntries [.t 4] := ⟨by decide, Try.f10, _, Try.func10, rfl, rfl, by kernel_rfl, by kernel_rfl⟩

def c_spec_PostEntries : SC :=
 .seq (.reg [
    ⟨none, some 4, .mv (.k (.nil 5))⟩,
    ⟨none, some 5, .mv (.k (.c (.b false)))⟩])
 (.seq (.reg [
    ⟨none, some 7, .bsl 5 []⟩,
    ⟨none, some 8, .mv (.t 0)⟩,
    ⟨none, some 9, .app 5 40 (.t 7) (.t 8)⟩,
    ⟨none, some 10, .mv (.t 1)⟩,
    ⟨none, some 11, .app 5 40 (.t 9) (.t 10)⟩,
    ⟨none, some 6, .mv (.t 11)⟩])
 (.seq (.seq (.reg [
     ⟨none, some 12, .mv (.t 0)⟩,
     ⟨none, some 13, .call n_spec_BookOk [.t 12]⟩,
     ⟨none, some 14, .not (.t 13)⟩,
     ⟨none, some 15, .mv (.t 14)⟩,
     ⟨some (15, false), some 16, .mv (.t 6)⟩,
     ⟨some (15, false), some 17, .call n_spec_BookOk [.t 16]⟩,
     ⟨some (15, false), some 18, .not (.t 17)⟩,
     ⟨none, some 19, .pick (.t 15) (.k (.c (.b true))) (.t 18)⟩])
  (.cond (.t 19)
   (.seq (.reg [
       ⟨none, some 20, .bsl 5 []⟩,
       ⟨none, some 21, .mv (.t 0)⟩,
       ⟨none, some 22, .app 5 40 (.t 20) (.t 21)⟩,
       ⟨none, some 4, .mv (.t 22)⟩,
       ⟨none, some 5, .mv (.k (.c (.b false)))⟩])
    (.ret))
   (.skip)))
 (.seq (.reg [
    ⟨none, some 23, .mv (.t 6)⟩,
    ⟨none, some 4, .mv (.t 23)⟩,
    ⟨none, some 5, .mv (.k (.c (.b true)))⟩])
 (.ret))))
theorem h_spec_PostEntries : Has Try.prog n_spec_PostEntries 24 c_spec_PostEntries [.t 4, .t 5] := ⟨by decide, Try.f57, _, Try.func57, rfl, rfl, by kernel_rfl, by kernel_rfl⟩

end Go.Proofs.Ytfmgadchjiplmaa
