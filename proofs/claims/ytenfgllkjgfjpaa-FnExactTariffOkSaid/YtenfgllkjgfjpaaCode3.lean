/- Functions of this seat in the small language, written by a program (GenCode) out of the translation; each is held against the translation by the kernel. -/
import Derived.Test.YtenfgllkjgfjpaaNames
import Derived.KernelRfl
set_option linter.all false
namespace Go.Proofs.Ytenfgllkjgfjpaa
open Go.RowKit

def c_laws_heldEntryS : SC :=
 .seq (.reg [
    ⟨none, some 4, .mv (.k (.c (.i 0)))⟩])
 (.seq (.seq (.reg [
     ⟨none, some 5, .mv (.k (.c (.i 0)))⟩])
  (.block 0 (.loop (.seq (.seq (.reg [
        ⟨none, some 6, .mv (.t 5)⟩,
        ⟨none, some 7, .mv (.t 0)⟩,
        ⟨none, some 8, .len (.t 7)⟩,
        ⟨none, some 9, .bin .lss (.t 6) (.t 8)⟩])
     (.cond (.t 9)
      (.skip)
      (.exit 0)))
    (.seq (.block 1 (.seq (.seq (.reg [
          ⟨none, some 12, .mv (.t 0)⟩,
          ⟨none, some 13, .mv (.t 5)⟩,
          ⟨none, some 14, .idx 5 (.t 12) (.t 13)⟩,
          ⟨none, some 15, .fld 0 (.t 14)⟩,
          ⟨none, some 16, .ld1 (.t 15)⟩,
          ⟨none, some 17, .mv (.t 1)⟩,
          ⟨none, some 18, .bin .neq (.t 16) (.t 17)⟩])
       (.cond (.t 18)
        (.seq (.reg [
            ⟨none, some 4, .mv (.k (.c (.i (-1))))⟩])
         (.ret))
        (.skip)))
      (.seq (.reg [
         ⟨none, some 19, .mv (.t 1)⟩,
         ⟨none, some 20, .bin .add (.t 19) (.k (.c (.i 1)))⟩,
         ⟨none, some 1, .mv (.t 20)⟩])
      (.seq (.seq (.reg [
          ⟨none, some 21, .mv (.t 0)⟩,
          ⟨none, some 22, .mv (.t 5)⟩,
          ⟨none, some 23, .idx 5 (.t 21) (.t 22)⟩,
          ⟨none, some 24, .fld 1 (.t 23)⟩,
          ⟨none, some 25, .ld1 (.t 24)⟩,
          ⟨none, some 26, .mv (.t 1)⟩,
          ⟨none, some 27, .bin .neq (.t 25) (.t 26)⟩])
       (.cond (.t 27)
        (.seq (.reg [
            ⟨none, some 4, .mv (.k (.c (.i (-1))))⟩])
         (.ret))
        (.skip)))
      (.seq (.reg [
         ⟨none, some 28, .mv (.t 1)⟩,
         ⟨none, some 29, .bin .add (.t 28) (.k (.c (.i 1)))⟩,
         ⟨none, some 1, .mv (.t 29)⟩])
      (.seq (.seq (.reg [
          ⟨none, some 30, .mv (.t 0)⟩,
          ⟨none, some 31, .mv (.t 5)⟩,
          ⟨none, some 32, .idx 5 (.t 30) (.t 31)⟩,
          ⟨none, some 33, .fld 2 (.t 32)⟩,
          ⟨none, some 34, .ld1 (.t 33)⟩,
          ⟨none, some 35, .mv (.t 1)⟩,
          ⟨none, some 36, .bin .neq (.t 34) (.t 35)⟩])
       (.cond (.t 36)
        (.seq (.reg [
            ⟨none, some 4, .mv (.k (.c (.i (-1))))⟩])
         (.ret))
        (.skip)))
      (.seq (.reg [
         ⟨none, some 37, .mv (.t 1)⟩,
         ⟨none, some 38, .bin .add (.t 37) (.k (.c (.i 1)))⟩,
         ⟨none, some 1, .mv (.t 38)⟩])
      (.seq (.seq (.reg [
          ⟨none, some 39, .mv (.t 0)⟩,
          ⟨none, some 40, .mv (.t 5)⟩,
          ⟨none, some 41, .idx 5 (.t 39) (.t 40)⟩,
          ⟨none, some 42, .fld 3 (.t 41)⟩,
          ⟨none, some 43, .ld1 (.t 42)⟩,
          ⟨none, some 44, .mv (.t 1)⟩,
          ⟨none, some 45, .bin .neq (.t 43) (.t 44)⟩])
       (.cond (.t 45)
        (.seq (.reg [
            ⟨none, some 4, .mv (.k (.c (.i (-1))))⟩])
         (.ret))
        (.skip)))
      (.seq (.reg [
         ⟨none, some 46, .mv (.t 1)⟩,
         ⟨none, some 47, .bin .add (.t 46) (.k (.c (.i 1)))⟩,
         ⟨none, some 1, .mv (.t 47)⟩])
      (.seq (.seq (.reg [
          ⟨none, some 48, .mv (.t 0)⟩,
          ⟨none, some 49, .mv (.t 5)⟩,
          ⟨none, some 50, .idx 5 (.t 48) (.t 49)⟩,
          ⟨none, some 51, .fld 4 (.t 50)⟩,
          ⟨none, some 52, .ld1 (.t 51)⟩,
          ⟨none, some 53, .mv (.t 1)⟩,
          ⟨none, some 54, .bin .neq (.t 52) (.t 53)⟩])
       (.cond (.t 54)
        (.seq (.reg [
            ⟨none, some 4, .mv (.k (.c (.i (-1))))⟩])
         (.ret))
        (.skip)))
      (.reg [
        ⟨none, some 55, .mv (.t 1)⟩,
        ⟨none, some 56, .bin .add (.t 55) (.k (.c (.i 1)))⟩,
        ⟨none, some 1, .mv (.t 56)⟩])))))))))))
    (.reg [
      ⟨none, some 10, .mv (.t 5)⟩,
      ⟨none, some 11, .bin .add (.t 10) (.k (.c (.i 1)))⟩,
      ⟨none, some 5, .mv (.t 11)⟩]))))))
 (.seq (.reg [
    ⟨none, some 57, .mv (.t 1)⟩,
    ⟨none, some 4, .mv (.t 57)⟩])
 (.ret)))
theorem h_laws_heldEntryS : Has Try.prog n_laws_heldEntryS 58 c_laws_heldEntryS [.t 4] := ⟨⟨Try.f58, _, Try.func58, rfl, rfl, by kernel_rfl, by kernel_rfl⟩⟩

def c_spec_SettleUp : SC :=
 .seq (.reg [
    ⟨none, some 4, .mv (.k (.nil))⟩])
 (.seq (.reg [
    ⟨none, some 13, .bsl 5 []⟩,
    ⟨none, some 5, .mv (.t 13)⟩])
 (.seq (.reg [
    ⟨none, some 14, .bsl 1 []⟩,
    ⟨none, some 15, .mv (.t 0)⟩,
    ⟨none, some 16, .app 1 8 (.t 14) (.t 15)⟩,
    ⟨none, some 6, .mv (.t 16)⟩])
 (.seq (.reg [
    ⟨none, some 7, .mv (.k (.c (.i 0)))⟩])
 (.seq (.seq (.reg [
     ⟨none, some 8, .mv (.k (.c (.i 0)))⟩])
  (.block 0 (.loop (.seq (.seq (.reg [
        ⟨none, some 17, .mv (.t 8)⟩,
        ⟨none, some 18, .mv (.t 6)⟩,
        ⟨none, some 19, .len (.t 18)⟩,
        ⟨none, some 20, .bin .lss (.t 17) (.t 19)⟩])
     (.cond (.t 20)
      (.skip)
      (.exit 0)))
    (.seq (.block 1 (.seq (.seq (.reg [
          ⟨none, some 23, .mv (.t 6)⟩,
          ⟨none, some 24, .mv (.t 8)⟩,
          ⟨none, some 25, .idx 1 (.t 23) (.t 24)⟩,
          ⟨none, some 26, .ld1 (.t 25)⟩,
          ⟨none, some 27, .call n_spec_l01In [.t 26, .k (.c (.i (-1000000000))), .k (.c (.i 1000000000))]⟩,
          ⟨none, some 28, .not (.t 27)⟩,
          ⟨none, some 29, .mv (.t 28)⟩,
          ⟨some (29, false), some 30, .mv (.t 6)⟩,
          ⟨some (29, false), some 31, .len (.t 30)⟩,
          ⟨some (29, false), some 32, .bin .gtr (.t 31) (.k (.c (.i 12)))⟩,
          ⟨none, some 33, .pick (.t 29) (.k (.c (.b true))) (.t 32)⟩])
       (.cond (.t 33)
        (.seq (.reg [
            ⟨none, some 34, .mv (.t 5)⟩,
            ⟨none, some 4, .mv (.t 34)⟩])
         (.ret))
        (.skip)))
      (.reg [
        ⟨none, some 35, .mv (.t 7)⟩,
        ⟨none, some 36, .mv (.t 6)⟩,
        ⟨none, some 37, .mv (.t 8)⟩,
        ⟨none, some 38, .idx 1 (.t 36) (.t 37)⟩,
        ⟨none, some 39, .ld1 (.t 38)⟩,
        ⟨none, some 40, .bin .add (.t 35) (.t 39)⟩,
        ⟨none, some 7, .mv (.t 40)⟩])))
    (.reg [
      ⟨none, some 21, .mv (.t 8)⟩,
      ⟨none, some 22, .bin .add (.t 21) (.k (.c (.i 1)))⟩,
      ⟨none, some 8, .mv (.t 22)⟩]))))))
 (.seq (.seq (.reg [
     ⟨none, some 41, .mv (.t 7)⟩,
     ⟨none, some 42, .bin .neq (.t 41) (.k (.c (.i 0)))⟩,
     ⟨none, some 43, .mv (.t 42)⟩,
     ⟨some (43, false), some 44, .mv (.t 1)⟩,
     ⟨some (43, false), some 45, .call n_spec_l01In [.t 44, .k (.c (.i 0)), .k (.c (.i 1000000))]⟩,
     ⟨some (43, false), some 46, .not (.t 45)⟩,
     ⟨none, some 47, .pick (.t 43) (.k (.c (.b true))) (.t 46)⟩])
  (.cond (.t 47)
   (.seq (.reg [
       ⟨none, some 48, .mv (.t 5)⟩,
       ⟨none, some 4, .mv (.t 48)⟩])
    (.ret))
   (.skip)))
 (.block 2 (.loop (.block 3 (.seq (.reg [
       ⟨none, some 9, .mv (.k (.c (.i 0)))⟩])
    (.seq (.reg [
       ⟨none, some 10, .mv (.k (.c (.i 0)))⟩])
    (.seq (.seq (.reg [
        ⟨none, some 11, .mv (.k (.c (.i 0)))⟩])
     (.block 4 (.loop (.seq (.seq (.reg [
           ⟨none, some 49, .mv (.t 11)⟩,
           ⟨none, some 50, .mv (.t 6)⟩,
           ⟨none, some 51, .len (.t 50)⟩,
           ⟨none, some 52, .bin .lss (.t 49) (.t 51)⟩])
        (.cond (.t 52)
         (.skip)
         (.exit 4)))
       (.seq (.block 5 (.seq (.seq (.regq [
             ⟨none, some 55, .mv (.t 6)⟩,
             ⟨none, some 56, .mv (.t 11)⟩,
             ⟨none, some 57, .idx 1 (.t 55) (.t 56)⟩,
             ⟨none, some 58, .ld1 (.t 57)⟩,
             ⟨none, some 59, .mv (.t 6)⟩,
             ⟨none, some 60, .mv (.t 9)⟩,
             ⟨none, some 61, .idx 1 (.t 59) (.t 60)⟩,
             ⟨none, some 62, .ld1 (.t 61)⟩,
             ⟨none, some 63, .bin .gtr (.t 58) (.t 62)⟩])
          (.cond (.t 63)
           (.reg [
              ⟨none, some 64, .mv (.t 11)⟩,
              ⟨none, some 9, .mv (.t 64)⟩])
           (.skip)))
         (.seq (.regq [
            ⟨none, some 65, .mv (.t 6)⟩,
            ⟨none, some 66, .mv (.t 11)⟩,
            ⟨none, some 67, .idx 1 (.t 65) (.t 66)⟩,
            ⟨none, some 68, .ld1 (.t 67)⟩,
            ⟨none, some 69, .mv (.t 6)⟩,
            ⟨none, some 70, .mv (.t 10)⟩,
            ⟨none, some 71, .idx 1 (.t 69) (.t 70)⟩,
            ⟨none, some 72, .ld1 (.t 71)⟩,
            ⟨none, some 73, .bin .lss (.t 68) (.t 72)⟩])
         (.cond (.t 73)
          (.reg [
             ⟨none, some 74, .mv (.t 11)⟩,
             ⟨none, some 10, .mv (.t 74)⟩])
          (.skip)))))
       (.reg [
         ⟨none, some 53, .mv (.t 11)⟩,
         ⟨none, some 54, .bin .add (.t 53) (.k (.c (.i 1)))⟩,
         ⟨none, some 11, .mv (.t 54)⟩]))))))
    (.seq (.seq (.reg [
        ⟨none, some 75, .mv (.t 6)⟩,
        ⟨none, some 76, .len (.t 75)⟩,
        ⟨none, some 77, .bin .eql (.t 76) (.k (.c (.i 0)))⟩,
        ⟨none, some 78, .mv (.t 77)⟩,
        ⟨some (78, false), some 79, .mv (.t 6)⟩,
        ⟨some (78, false), some 80, .mv (.t 9)⟩,
        ⟨some (78, false), some 81, .idx 1 (.t 79) (.t 80)⟩,
        ⟨some (78, false), some 82, .ld1 (.t 81)⟩,
        ⟨some (78, false), some 83, .bin .eql (.t 82) (.k (.c (.i 0)))⟩,
        ⟨none, some 84, .pick (.t 78) (.k (.c (.b true))) (.t 83)⟩])
     (.cond (.t 84)
      (.seq (.reg [
          ⟨none, some 85, .mv (.t 5)⟩,
          ⟨none, some 4, .mv (.t 85)⟩])
       (.ret))
      (.skip)))
    (.seq (.regq [
       ⟨none, some 86, .mv (.t 6)⟩,
       ⟨none, some 87, .mv (.t 9)⟩,
       ⟨none, some 88, .idx 1 (.t 86) (.t 87)⟩,
       ⟨none, some 89, .ld1 (.t 88)⟩,
       ⟨none, some 90, .mv (.t 6)⟩,
       ⟨none, some 91, .mv (.t 10)⟩,
       ⟨none, some 92, .idx 1 (.t 90) (.t 91)⟩,
       ⟨none, some 93, .ld1 (.t 92)⟩,
       ⟨none, some 94, .neg (.t 93)⟩,
       ⟨none, some 95, .mn [.t 89, .t 94]⟩,
       ⟨none, some 12, .mv (.t 95)⟩])
    (.seq (.reg [
       ⟨none, some 96, .mv (.t 5)⟩,
       ⟨none, some 97, .mv (.t 9)⟩,
       ⟨none, some 98, .mv (.t 10)⟩,
       ⟨none, some 99, .mv (.t 12)⟩,
       ⟨none, some 100, .mv (.t 1)⟩,
       ⟨none, some 101, .bld [.c (.i 0), .c (.i 0), .c (.i 0), .c (.i 0), .c (.i 0)] [(0, 1, .t 97), (1, 1, .t 98), (2, 1, .t 99), (3, 1, .t 100)]⟩,
       ⟨none, some 102, .bsl 5 [.t 101]⟩,
       ⟨none, some 103, .app 5 40 (.t 96) (.t 102)⟩,
       ⟨none, some 5, .mv (.t 103)⟩])
    (.seq (.reg [
       ⟨none, some 104, .mv (.t 6)⟩,
       ⟨none, some 105, .mv (.t 9)⟩,
       ⟨none, some 106, .mv (.t 6)⟩,
       ⟨none, some 107, .mv (.t 9)⟩,
       ⟨none, some 108, .idx 1 (.t 106) (.t 107)⟩,
       ⟨none, some 109, .ld1 (.t 108)⟩,
       ⟨none, some 110, .mv (.t 12)⟩,
       ⟨none, some 111, .bin .sub (.t 109) (.t 110)⟩,
       ⟨none, some 112, .idx 1 (.t 104) (.t 105)⟩,
       ⟨none, none, .st1 (.t 112) (.t 111)⟩])
    (.reg [
      ⟨none, some 113, .mv (.t 6)⟩,
      ⟨none, some 114, .mv (.t 10)⟩,
      ⟨none, some 115, .mv (.t 6)⟩,
      ⟨none, some 116, .mv (.t 10)⟩,
      ⟨none, some 117, .idx 1 (.t 115) (.t 116)⟩,
      ⟨none, some 118, .ld1 (.t 117)⟩,
      ⟨none, some 119, .mv (.t 12)⟩,
      ⟨none, some 120, .bin .add (.t 118) (.t 119)⟩,
      ⟨none, some 121, .idx 1 (.t 113) (.t 114)⟩,
      ⟨none, none, .st1 (.t 121) (.t 120)⟩]))))))))))))))))
theorem h_spec_SettleUp : Has Try.prog n_spec_SettleUp 122 c_spec_SettleUp [.t 4] := ⟨⟨Try.f59, _, Try.func59, rfl, rfl, by kernel_rfl, by kernel_rfl⟩⟩

def c_laws_toIntS : SC :=
 .seq (.reg [
    ⟨none, some 2, .mv (.k (.nil))⟩])
 (.seq (.reg [
    ⟨none, some 5, .mv (.t 0)⟩,
    ⟨none, some 6, .len (.t 5)⟩,
    ⟨none, some 7, .mks 1 8 [.i 0] (.t 6) (.t 6)⟩,
    ⟨none, some 3, .mv (.t 7)⟩])
 (.seq (.seq (.reg [
     ⟨none, some 4, .mv (.k (.c (.i 0)))⟩])
  (.block 0 (.loop (.seq (.seq (.reg [
        ⟨none, some 8, .mv (.t 4)⟩,
        ⟨none, some 9, .mv (.t 0)⟩,
        ⟨none, some 10, .len (.t 9)⟩,
        ⟨none, some 11, .bin .lss (.t 8) (.t 10)⟩])
     (.cond (.t 11)
      (.skip)
      (.exit 0)))
    (.seq (.block 1 (.reg [
        ⟨none, some 14, .mv (.t 3)⟩,
        ⟨none, some 15, .mv (.t 4)⟩,
        ⟨none, some 16, .mv (.t 0)⟩,
        ⟨none, some 17, .mv (.t 4)⟩,
        ⟨none, some 18, .idx 1 (.t 16) (.t 17)⟩,
        ⟨none, some 19, .ld1 (.t 18)⟩,
        ⟨none, some 20, .idx 1 (.t 14) (.t 15)⟩,
        ⟨none, none, .st1 (.t 20) (.t 19)⟩]))
    (.reg [
      ⟨none, some 12, .mv (.t 4)⟩,
      ⟨none, some 13, .bin .add (.t 12) (.k (.c (.i 1)))⟩,
      ⟨none, some 4, .mv (.t 13)⟩]))))))
 (.seq (.reg [
    ⟨none, some 21, .mv (.t 3)⟩,
    ⟨none, some 2, .mv (.t 21)⟩])
 (.ret))))
theorem h_laws_toIntS : Has Try.prog n_laws_toIntS 22 c_laws_toIntS [.t 2] := ⟨⟨Try.f60, _, Try.func60, rfl, rfl, by kernel_rfl, by kernel_rfl⟩⟩

def c_laws_szMover : SC :=
 .seq (.reg [
    ⟨none, some 2, .box 3 (.t 0)⟩,
    ⟨none, some 4, .mv (.k (.c (.i 0)))⟩])
 (.seq (.reg [
    ⟨none, some 5, .fld 0 (.t 2)⟩,
    ⟨none, some 6, .ldn 2 (.t 5)⟩,
    ⟨none, some 7, .mv (.t 1)⟩,
    ⟨none, some 8, .call n_laws_szTrain [.t 6, .t 7]⟩,
    ⟨none, some 1, .mv (.t 8)⟩])
 (.seq (.seq (.reg [
     ⟨none, some 9, .mv (.t 1)⟩,
     ⟨none, some 10, .bin .lss (.t 9) (.k (.c (.i 0)))⟩])
  (.cond (.t 10)
   (.seq (.reg [
       ⟨none, some 4, .mv (.k (.c (.i (-1))))⟩])
    (.ret))
   (.skip)))
 (.seq (.reg [
    ⟨none, some 11, .mv (.t 1)⟩,
    ⟨none, some 4, .mv (.t 11)⟩])
 (.ret))))
theorem h_laws_szMover : Has Try.prog n_laws_szMover 12 c_laws_szMover [.t 4] := ⟨⟨Try.f61, _, Try.func61, rfl, rfl, by kernel_rfl, by kernel_rfl⟩⟩

def c_spec_MoverOk : SC :=
 .seq (.reg [
    ⟨none, some 2, .box 3 (.t 0)⟩,
    ⟨none, some 3, .box 2 (.t 1)⟩,
    ⟨none, some 4, .mv (.k (.c (.b false)))⟩])
 (.seq (.reg [
    ⟨none, some 5, .ldn 2 (.t 3)⟩,
    ⟨none, some 6, .call n_spec_WayOk [.t 5]⟩,
    ⟨none, some 7, .mv (.t 6)⟩,
    ⟨some (7, true), some 8, .fld 0 (.t 2)⟩,
    ⟨some (7, true), some 9, .ldn 2 (.t 8)⟩,
    ⟨some (7, true), some 10, .call n_spec_TrainOk [.t 9]⟩,
    ⟨none, some 11, .pick (.t 7) (.t 10) (.k (.c (.b false)))⟩,
    ⟨none, some 12, .mv (.t 11)⟩,
    ⟨some (12, true), some 13, .fld 2 (.t 2)⟩,
    ⟨some (12, true), some 14, .ld1 (.t 13)⟩,
    ⟨some (12, true), some 15, .fld 0 (.t 3)⟩,
    ⟨some (12, true), some 16, .ld1 (.t 15)⟩,
    ⟨some (12, true), some 17, .call n_spec_l01In [.t 14, .k (.c (.i 0)), .t 16]⟩,
    ⟨none, some 18, .pick (.t 12) (.t 17) (.k (.c (.b false)))⟩,
    ⟨none, some 4, .mv (.t 18)⟩])
 (.ret))
theorem h_spec_MoverOk : Has Try.prog n_spec_MoverOk 19 c_spec_MoverOk [.t 4] := ⟨⟨Try.f62, _, Try.func62, rfl, rfl, by kernel_rfl, by kernel_rfl⟩⟩

def c_laws_toMover : SC :=
 .seq (.reg [
    ⟨none, some 1, .box 3 (.t 0)⟩,
    ⟨none, some 2, .alloc [.c (.b false), .nil, .c (.i 0)]⟩])
 (.seq (.reg [
    ⟨none, some 3, .alloc [.c (.b false), .nil, .c (.i 0)]⟩])
 (.seq (.reg [
    ⟨none, some 4, .fld 0 (.t 1)⟩,
    ⟨none, some 5, .ldn 2 (.t 4)⟩,
    ⟨none, some 6, .call n_laws_toTrain [.t 5]⟩,
    ⟨none, some 7, .fld 0 (.t 3)⟩,
    ⟨none, none, .stn 2 (.t 7) (.t 6)⟩])
 (.seq (.reg [
    ⟨none, some 8, .fld 2 (.t 1)⟩,
    ⟨none, some 9, .ld1 (.t 8)⟩,
    ⟨none, some 10, .fld 2 (.t 3)⟩,
    ⟨none, none, .st1 (.t 10) (.t 9)⟩])
 (.seq (.reg [
    ⟨none, some 11, .ldn 3 (.t 3)⟩,
    ⟨none, none, .stn 3 (.t 2) (.t 11)⟩])
 (.ret)))))
theorem h_laws_toMover : Has Try.prog n_laws_toMover 12 c_laws_toMover [.cl 2 3] := ⟨⟨Try.f63, _, Try.func63, rfl, rfl, by kernel_rfl, by kernel_rfl⟩⟩

def c_impl_MoverOk : SC :=
 .seq (.reg [
    ⟨none, some 2, .box 3 (.t 0)⟩,
    ⟨none, some 3, .box 2 (.t 1)⟩,
    ⟨none, some 4, .mv (.k (.c (.b false)))⟩])
 (.seq (.reg [
    ⟨none, some 5, .ldn 2 (.t 3)⟩,
    ⟨none, some 6, .call n_impl_WayOk [.t 5]⟩,
    ⟨none, some 7, .mv (.t 6)⟩,
    ⟨some (7, true), some 8, .fld 0 (.t 2)⟩,
    ⟨some (7, true), some 9, .ldn 2 (.t 8)⟩,
    ⟨some (7, true), some 10, .call n_impl_TrainOk [.t 9]⟩,
    ⟨none, some 11, .pick (.t 7) (.t 10) (.k (.c (.b false)))⟩,
    ⟨none, some 12, .mv (.t 11)⟩,
    ⟨some (12, true), some 13, .fld 2 (.t 2)⟩,
    ⟨some (12, true), some 14, .ld1 (.t 13)⟩,
    ⟨some (12, true), some 15, .fld 0 (.t 3)⟩,
    ⟨some (12, true), some 16, .ld1 (.t 15)⟩,
    ⟨some (12, true), some 17, .call n_impl_inRange [.t 14, .k (.c (.i 0)), .t 16]⟩,
    ⟨none, some 18, .pick (.t 12) (.t 17) (.k (.c (.b false)))⟩,
    ⟨none, some 4, .mv (.t 18)⟩])
 (.ret))
theorem h_impl_MoverOk : Has Try.prog n_impl_MoverOk 19 c_impl_MoverOk [.t 4] := ⟨⟨Try.f64, _, Try.func64, rfl, rfl, by kernel_rfl, by kernel_rfl⟩⟩

def c_laws_eqMover : SC :=
 .seq (.reg [
    ⟨none, some 2, .box 3 (.t 0)⟩,
    ⟨none, some 3, .box 3 (.t 1)⟩,
    ⟨none, some 4, .mv (.k (.c (.b false)))⟩])
 (.seq (.seq (.reg [
     ⟨none, some 5, .fld 0 (.t 2)⟩,
     ⟨none, some 6, .ldn 2 (.t 5)⟩,
     ⟨none, some 7, .fld 0 (.t 3)⟩,
     ⟨none, some 8, .ldn 2 (.t 7)⟩,
     ⟨none, some 9, .call n_laws_eqTrain [.t 6, .t 8]⟩,
     ⟨none, some 10, .not (.t 9)⟩])
  (.cond (.t 10)
   (.seq (.reg [
       ⟨none, some 4, .mv (.k (.c (.b false)))⟩])
    (.ret))
   (.skip)))
 (.seq (.seq (.reg [
     ⟨none, some 11, .fld 2 (.t 2)⟩,
     ⟨none, some 12, .ld1 (.t 11)⟩,
     ⟨none, some 13, .fld 2 (.t 3)⟩,
     ⟨none, some 14, .ld1 (.t 13)⟩,
     ⟨none, some 15, .bin .neq (.t 12) (.t 14)⟩])
  (.cond (.t 15)
   (.seq (.reg [
       ⟨none, some 4, .mv (.k (.c (.b false)))⟩])
    (.ret))
   (.skip)))
 (.seq (.reg [
    ⟨none, some 4, .mv (.k (.c (.b true)))⟩])
 (.ret))))
theorem h_laws_eqMover : Has Try.prog n_laws_eqMover 16 c_laws_eqMover [.t 4] := ⟨⟨Try.f65, _, Try.func65, rfl, rfl, by kernel_rfl, by kernel_rfl⟩⟩

def c_spec_AtEnd : SC :=
 .seq (.reg [
    ⟨none, some 2, .box 3 (.t 0)⟩,
    ⟨none, some 3, .box 2 (.t 1)⟩,
    ⟨none, some 4, .mv (.k (.c (.b false)))⟩])
 (.seq (.seq (.reg [
     ⟨none, some 5, .ldn 3 (.t 2)⟩,
     ⟨none, some 6, .ldn 2 (.t 3)⟩,
     ⟨none, some 7, .call n_spec_MoverOk [.t 5, .t 6]⟩,
     ⟨none, some 8, .not (.t 7)⟩])
  (.cond (.t 8)
   (.seq (.reg [
       ⟨none, some 4, .mv (.k (.c (.b false)))⟩])
    (.ret))
   (.skip)))
 (.seq (.seq (.reg [
     ⟨none, some 9, .fld 0 (.t 2)⟩,
     ⟨none, some 10, .fld 0 (.t 9)⟩,
     ⟨none, some 11, .ld1 (.t 10)⟩])
  (.cond (.t 11)
   (.seq (.reg [
       ⟨none, some 12, .fld 2 (.t 2)⟩,
       ⟨none, some 13, .ld1 (.t 12)⟩,
       ⟨none, some 14, .bin .eql (.t 13) (.k (.c (.i 0)))⟩,
       ⟨none, some 4, .mv (.t 14)⟩])
    (.ret))
   (.skip)))
 (.seq (.reg [
    ⟨none, some 15, .fld 2 (.t 2)⟩,
    ⟨none, some 16, .ld1 (.t 15)⟩,
    ⟨none, some 17, .fld 0 (.t 3)⟩,
    ⟨none, some 18, .ld1 (.t 17)⟩,
    ⟨none, some 19, .bin .eql (.t 16) (.t 18)⟩,
    ⟨none, some 4, .mv (.t 19)⟩])
 (.ret))))
theorem h_spec_AtEnd : Has Try.prog n_spec_AtEnd 20 c_spec_AtEnd [.t 4] := ⟨⟨Try.f66, _, Try.func66, rfl, rfl, by kernel_rfl, by kernel_rfl⟩⟩

def c_impl_AtEnd : SC :=
 .seq (.reg [
    ⟨none, some 2, .box 3 (.t 0)⟩,
    ⟨none, some 3, .box 2 (.t 1)⟩,
    ⟨none, some 4, .mv (.k (.c (.b false)))⟩])
 (.seq (.regq [
    ⟨none, some 5, .ldn 3 (.t 2)⟩,
    ⟨none, some 6, .ldn 2 (.t 3)⟩,
    ⟨none, some 7, .call n_impl_MoverOk [.t 5, .t 6]⟩,
    ⟨none, some 8, .mv (.t 7)⟩,
    ⟨some (8, true), some 9, .fld 2 (.t 2)⟩,
    ⟨some (8, true), some 10, .ld1 (.t 9)⟩,
    ⟨some (8, true), some 11, .fld 0 (.t 2)⟩,
    ⟨some (8, true), some 12, .ldn 2 (.t 11)⟩,
    ⟨some (8, true), some 13, .ldn 2 (.t 3)⟩,
    ⟨some (8, true), some 14, .call n_impl_endOf [.t 12, .t 13]⟩,
    ⟨some (8, true), some 15, .bin .eql (.t 10) (.t 14)⟩,
    ⟨none, some 16, .pick (.t 8) (.t 15) (.k (.c (.b false)))⟩,
    ⟨none, some 4, .mv (.t 16)⟩])
 (.ret))
theorem h_impl_AtEnd : Has Try.prog n_impl_AtEnd 17 c_impl_AtEnd [.t 4] := ⟨⟨Try.f67, _, Try.func67, rfl, rfl, by kernel_rfl, by kernel_rfl⟩⟩

def c_laws_szTrain : SC :=
 .seq (.reg [
    ⟨none, some 2, .box 2 (.t 0)⟩,
    ⟨none, some 4, .mv (.k (.c (.i 0)))⟩])
 (.seq (.reg [
    ⟨none, some 5, .fld 1 (.t 2)⟩,
    ⟨none, some 6, .ld1 (.t 5)⟩,
    ⟨none, some 7, .mv (.t 1)⟩,
    ⟨none, some 8, .call n_laws_szBoatSS [.t 6, .t 7]⟩,
    ⟨none, some 1, .mv (.t 8)⟩])
 (.seq (.seq (.reg [
     ⟨none, some 9, .mv (.t 1)⟩,
     ⟨none, some 10, .bin .lss (.t 9) (.k (.c (.i 0)))⟩])
  (.cond (.t 10)
   (.seq (.reg [
       ⟨none, some 4, .mv (.k (.c (.i (-1))))⟩])
    (.ret))
   (.skip)))
 (.seq (.reg [
    ⟨none, some 11, .mv (.t 1)⟩,
    ⟨none, some 4, .mv (.t 11)⟩])
 (.ret))))
theorem h_laws_szTrain : Has Try.prog n_laws_szTrain 12 c_laws_szTrain [.t 4] := ⟨⟨Try.f68, _, Try.func68, rfl, rfl, by kernel_rfl, by kernel_rfl⟩⟩

def c_spec_PaceOf : SC :=
 .seq (.reg [
    ⟨none, some 2, .box 2 (.t 0)⟩,
    ⟨none, some 4, .mv (.k (.c (.i 0)))⟩])
 (.seq (.seq (.reg [
     ⟨none, some 5, .ldn 2 (.t 2)⟩,
     ⟨none, some 6, .call n_spec_TrainOk [.t 5]⟩,
     ⟨none, some 7, .not (.t 6)⟩,
     ⟨none, some 8, .mv (.t 7)⟩,
     ⟨some (8, false), some 9, .mv (.t 1)⟩,
     ⟨some (8, false), some 10, .call n_spec_l01In [.t 9, .k (.c (.i 0)), .k (.c (.i 1000000000))]⟩,
     ⟨some (8, false), some 11, .not (.t 10)⟩,
     ⟨none, some 12, .pick (.t 8) (.k (.c (.b true))) (.t 11)⟩,
     ⟨none, some 13, .mv (.t 12)⟩,
     ⟨some (13, false), some 14, .mv (.t 1)⟩,
     ⟨some (13, false), some 15, .ldn 2 (.t 2)⟩,
     ⟨some (13, false), some 16, .call n_spec_DraughtOf [.t 15]⟩,
     ⟨some (13, false), some 17, .bin .lss (.t 14) (.t 16)⟩,
     ⟨none, some 18, .pick (.t 13) (.k (.c (.b true))) (.t 17)⟩])
  (.cond (.t 18)
   (.seq (.reg [
       ⟨none, some 4, .mv (.k (.c (.i 0)))⟩])
    (.ret))
   (.skip)))
 (.seq (.seq (.reg [
     ⟨none, some 19, .mv (.t 1)⟩,
     ⟨none, some 20, .bin .mul (.k (.c (.i 2))) (.t 19)⟩,
     ⟨none, some 21, .ldn 2 (.t 2)⟩,
     ⟨none, some 22, .call n_spec_DraughtOf [.t 21]⟩,
     ⟨none, some 23, .bin .mul (.k (.c (.i 3))) (.t 22)⟩,
     ⟨none, some 24, .bin .lss (.t 20) (.t 23)⟩])
  (.cond (.t 24)
   (.seq (.reg [
       ⟨none, some 25, .ldn 2 (.t 2)⟩,
       ⟨none, some 26, .call n_spec_SpeedOf [.t 25]⟩,
       ⟨none, some 27, .bin .add (.t 26) (.k (.c (.i 1)))⟩,
       ⟨none, some 28, .bin .quo (.t 27) (.k (.c (.i 2)))⟩,
       ⟨none, some 4, .mv (.t 28)⟩])
    (.ret))
   (.skip)))
 (.seq (.reg [
    ⟨none, some 29, .ldn 2 (.t 2)⟩,
    ⟨none, some 30, .call n_spec_SpeedOf [.t 29]⟩,
    ⟨none, some 4, .mv (.t 30)⟩])
 (.ret))))
theorem h_spec_PaceOf : Has Try.prog n_spec_PaceOf 31 c_spec_PaceOf [.t 4] := ⟨⟨Try.f69, _, Try.func69, rfl, rfl, by kernel_rfl, by kernel_rfl⟩⟩

def c_laws_toTrain : SC :=
 .seq (.reg [
    ⟨none, some 1, .box 2 (.t 0)⟩,
    ⟨none, some 2, .alloc [.c (.b false), .nil]⟩])
 (.seq (.reg [
    ⟨none, some 3, .alloc [.c (.b false), .nil]⟩])
 (.seq (.reg [
    ⟨none, some 4, .fld 0 (.t 1)⟩,
    ⟨none, some 5, .ld1 (.t 4)⟩,
    ⟨none, some 6, .fld 0 (.t 3)⟩,
    ⟨none, none, .st1 (.t 6) (.t 5)⟩])
 (.seq (.reg [
    ⟨none, some 7, .fld 1 (.t 1)⟩,
    ⟨none, some 8, .ld1 (.t 7)⟩,
    ⟨none, some 9, .call n_laws_toBoatSS [.t 8]⟩,
    ⟨none, some 10, .fld 1 (.t 3)⟩,
    ⟨none, none, .st1 (.t 10) (.t 9)⟩])
 (.seq (.reg [
    ⟨none, some 11, .ldn 2 (.t 3)⟩,
    ⟨none, none, .stn 2 (.t 2) (.t 11)⟩])
 (.ret)))))
theorem h_laws_toTrain : Has Try.prog n_laws_toTrain 12 c_laws_toTrain [.cl 2 2] := ⟨⟨Try.f70, _, Try.func70, rfl, rfl, by kernel_rfl, by kernel_rfl⟩⟩

def c_impl_PaceOf : SC :=
 .seq (.reg [
    ⟨none, some 2, .box 2 (.t 0)⟩,
    ⟨none, some 4, .mv (.k (.c (.i 0)))⟩])
 (.seq (.seq (.reg [
     ⟨none, some 5, .ldn 2 (.t 2)⟩,
     ⟨none, some 6, .call n_impl_TrainOk [.t 5]⟩,
     ⟨none, some 7, .not (.t 6)⟩,
     ⟨none, some 8, .mv (.t 7)⟩,
     ⟨some (8, false), some 9, .mv (.t 1)⟩,
     ⟨some (8, false), some 10, .call n_impl_inRange [.t 9, .k (.c (.i 0)), .k (.c (.i 1000000000))]⟩,
     ⟨some (8, false), some 11, .not (.t 10)⟩,
     ⟨none, some 12, .pick (.t 8) (.k (.c (.b true))) (.t 11)⟩,
     ⟨none, some 13, .mv (.t 12)⟩,
     ⟨some (13, false), some 14, .mv (.t 1)⟩,
     ⟨some (13, false), some 15, .ldn 2 (.t 2)⟩,
     ⟨some (13, false), some 16, .call n_impl_DraughtOf [.t 15]⟩,
     ⟨some (13, false), some 17, .bin .lss (.t 14) (.t 16)⟩,
     ⟨none, some 18, .pick (.t 13) (.k (.c (.b true))) (.t 17)⟩])
  (.cond (.t 18)
   (.seq (.reg [
       ⟨none, some 4, .mv (.k (.c (.i 0)))⟩])
    (.ret))
   (.skip)))
 (.seq (.seq (.reg [
     ⟨none, some 19, .mv (.t 1)⟩,
     ⟨none, some 20, .bin .mul (.k (.c (.i 2))) (.t 19)⟩,
     ⟨none, some 21, .ldn 2 (.t 2)⟩,
     ⟨none, some 22, .call n_impl_DraughtOf [.t 21]⟩,
     ⟨none, some 23, .bin .mul (.k (.c (.i 3))) (.t 22)⟩,
     ⟨none, some 24, .bin .lss (.t 20) (.t 23)⟩])
  (.cond (.t 24)
   (.seq (.reg [
       ⟨none, some 25, .ldn 2 (.t 2)⟩,
       ⟨none, some 26, .call n_impl_SpeedOf [.t 25]⟩,
       ⟨none, some 27, .bin .add (.t 26) (.k (.c (.i 1)))⟩,
       ⟨none, some 28, .bin .quo (.t 27) (.k (.c (.i 2)))⟩,
       ⟨none, some 4, .mv (.t 28)⟩])
    (.ret))
   (.skip)))
 (.seq (.reg [
    ⟨none, some 29, .ldn 2 (.t 2)⟩,
    ⟨none, some 30, .call n_impl_SpeedOf [.t 29]⟩,
    ⟨none, some 4, .mv (.t 30)⟩])
 (.ret))))
theorem h_impl_PaceOf : Has Try.prog n_impl_PaceOf 31 c_impl_PaceOf [.t 4] := ⟨⟨Try.f71, _, Try.func71, rfl, rfl, by kernel_rfl, by kernel_rfl⟩⟩

def c_laws_eqTrain : SC :=
 .seq (.reg [
    ⟨none, some 2, .box 2 (.t 0)⟩,
    ⟨none, some 3, .box 2 (.t 1)⟩,
    ⟨none, some 4, .mv (.k (.c (.b false)))⟩])
 (.seq (.seq (.reg [
     ⟨none, some 5, .fld 0 (.t 2)⟩,
     ⟨none, some 6, .ld1 (.t 5)⟩,
     ⟨none, some 7, .fld 0 (.t 3)⟩,
     ⟨none, some 8, .ld1 (.t 7)⟩,
     ⟨none, some 9, .beq true (.t 6) (.t 8)⟩])
  (.cond (.t 9)
   (.seq (.reg [
       ⟨none, some 4, .mv (.k (.c (.b false)))⟩])
    (.ret))
   (.skip)))
 (.seq (.seq (.reg [
     ⟨none, some 10, .fld 1 (.t 2)⟩,
     ⟨none, some 11, .ld1 (.t 10)⟩,
     ⟨none, some 12, .fld 1 (.t 3)⟩,
     ⟨none, some 13, .ld1 (.t 12)⟩,
     ⟨none, some 14, .call n_laws_eqBoatSS [.t 11, .t 13]⟩,
     ⟨none, some 15, .not (.t 14)⟩])
  (.cond (.t 15)
   (.seq (.reg [
       ⟨none, some 4, .mv (.k (.c (.b false)))⟩])
    (.ret))
   (.skip)))
 (.seq (.reg [
    ⟨none, some 4, .mv (.k (.c (.b true)))⟩])
 (.ret))))
theorem h_laws_eqTrain : Has Try.prog n_laws_eqTrain 16 c_laws_eqTrain [.t 4] := ⟨⟨Try.f72, _, Try.func72, rfl, rfl, by kernel_rfl, by kernel_rfl⟩⟩

def c_laws_szReach : SC :=
 .seq (.reg [
    ⟨none, some 2, .box 3 (.t 0)⟩,
    ⟨none, some 4, .mv (.k (.c (.i 0)))⟩])
 (.seq (.reg [
    ⟨none, some 5, .fld 0 (.t 2)⟩,
    ⟨none, some 6, .ld1 (.t 5)⟩,
    ⟨none, some 7, .mv (.t 1)⟩,
    ⟨none, some 8, .call n_laws_szPointS [.t 6, .t 7]⟩,
    ⟨none, some 1, .mv (.t 8)⟩])
 (.seq (.seq (.reg [
     ⟨none, some 9, .mv (.t 1)⟩,
     ⟨none, some 10, .bin .lss (.t 9) (.k (.c (.i 0)))⟩])
  (.cond (.t 10)
   (.seq (.reg [
       ⟨none, some 4, .mv (.k (.c (.i (-1))))⟩])
    (.ret))
   (.skip)))
 (.seq (.reg [
    ⟨none, some 11, .fld 2 (.t 2)⟩,
    ⟨none, some 12, .ld1 (.t 11)⟩,
    ⟨none, some 13, .mv (.t 1)⟩,
    ⟨none, some 14, .call n_laws_szIntS [.t 12, .t 13]⟩,
    ⟨none, some 1, .mv (.t 14)⟩])
 (.seq (.seq (.reg [
     ⟨none, some 15, .mv (.t 1)⟩,
     ⟨none, some 16, .bin .lss (.t 15) (.k (.c (.i 0)))⟩])
  (.cond (.t 16)
   (.seq (.reg [
       ⟨none, some 4, .mv (.k (.c (.i (-1))))⟩])
    (.ret))
   (.skip)))
 (.seq (.reg [
    ⟨none, some 17, .mv (.t 1)⟩,
    ⟨none, some 4, .mv (.t 17)⟩])
 (.ret))))))
theorem h_laws_szReach : Has Try.prog n_laws_szReach 18 c_laws_szReach [.t 4] := ⟨⟨Try.f73, _, Try.func73, rfl, rfl, by kernel_rfl, by kernel_rfl⟩⟩

def c_spec_DepthIn : SC :=
 .seq (.reg [
    ⟨none, some 2, .box 2 (.t 0)⟩,
    ⟨none, some 3, .box 3 (.t 1)⟩,
    ⟨none, some 4, .mv (.k (.c (.i 0)))⟩])
 (.seq (.seq (.reg [
     ⟨none, some 5, .ldn 2 (.t 2)⟩,
     ⟨none, some 6, .call n_spec_WayOk [.t 5]⟩,
     ⟨none, some 7, .not (.t 6)⟩,
     ⟨none, some 8, .mv (.t 7)⟩,
     ⟨some (8, false), some 9, .ldn 3 (.t 3)⟩,
     ⟨some (8, false), some 10, .call n_spec_ReachOk [.t 9]⟩,
     ⟨some (8, false), some 11, .not (.t 10)⟩,
     ⟨none, some 12, .pick (.t 8) (.k (.c (.b true))) (.t 11)⟩])
  (.cond (.t 12)
   (.seq (.reg [
       ⟨none, some 4, .mv (.k (.c (.i 0)))⟩])
    (.ret))
   (.skip)))
 (.seq (.regq [
    ⟨none, some 13, .ldn 3 (.t 3)⟩,
    ⟨none, some 14, .call n_spec_LevelOf [.t 13]⟩,
    ⟨none, some 15, .fld 1 (.t 2)⟩,
    ⟨none, some 16, .ld1 (.t 15)⟩,
    ⟨none, some 17, .bin .sub (.t 14) (.t 16)⟩,
    ⟨none, some 18, .mx [.k (.c (.i 0)), .t 17]⟩,
    ⟨none, some 4, .mv (.t 18)⟩])
 (.ret)))
theorem h_spec_DepthIn : Has Try.prog n_spec_DepthIn 19 c_spec_DepthIn [.t 4] := ⟨⟨Try.f74, _, Try.func74, rfl, rfl, by kernel_rfl, by kernel_rfl⟩⟩

def c_laws_toReach : SC :=
 .seq (.reg [
    ⟨none, some 1, .box 3 (.t 0)⟩,
    ⟨none, some 2, .alloc [.nil, .c (.i 0), .nil]⟩])
 (.seq (.reg [
    ⟨none, some 3, .alloc [.nil, .c (.i 0), .nil]⟩])
 (.seq (.reg [
    ⟨none, some 4, .fld 0 (.t 1)⟩,
    ⟨none, some 5, .ld1 (.t 4)⟩,
    ⟨none, some 6, .call n_laws_toPointS [.t 5]⟩,
    ⟨none, some 7, .fld 0 (.t 3)⟩,
    ⟨none, none, .st1 (.t 7) (.t 6)⟩])
 (.seq (.reg [
    ⟨none, some 8, .fld 1 (.t 1)⟩,
    ⟨none, some 9, .ld1 (.t 8)⟩,
    ⟨none, some 10, .fld 1 (.t 3)⟩,
    ⟨none, none, .st1 (.t 10) (.t 9)⟩])
 (.seq (.reg [
    ⟨none, some 11, .fld 2 (.t 1)⟩,
    ⟨none, some 12, .ld1 (.t 11)⟩,
    ⟨none, some 13, .call n_laws_toIntS [.t 12]⟩,
    ⟨none, some 14, .fld 2 (.t 3)⟩,
    ⟨none, none, .st1 (.t 14) (.t 13)⟩])
 (.seq (.reg [
    ⟨none, some 15, .ldn 3 (.t 3)⟩,
    ⟨none, none, .stn 3 (.t 2) (.t 15)⟩])
 (.ret))))))
theorem h_laws_toReach : Has Try.prog n_laws_toReach 16 c_laws_toReach [.cl 2 3] := ⟨⟨Try.f75, _, Try.func75, rfl, rfl, by kernel_rfl, by kernel_rfl⟩⟩

def c_impl_DepthIn : SC :=
 .seq (.reg [
    ⟨none, some 2, .box 2 (.t 0)⟩,
    ⟨none, some 3, .box 3 (.t 1)⟩,
    ⟨none, some 4, .mv (.k (.c (.i 0)))⟩])
 (.seq (.seq (.reg [
     ⟨none, some 5, .ldn 2 (.t 2)⟩,
     ⟨none, some 6, .call n_impl_WayOk [.t 5]⟩,
     ⟨none, some 7, .not (.t 6)⟩,
     ⟨none, some 8, .mv (.t 7)⟩,
     ⟨some (8, false), some 9, .ldn 3 (.t 3)⟩,
     ⟨some (8, false), some 10, .call n_impl_ReachOk [.t 9]⟩,
     ⟨some (8, false), some 11, .not (.t 10)⟩,
     ⟨none, some 12, .pick (.t 8) (.k (.c (.b true))) (.t 11)⟩])
  (.cond (.t 12)
   (.seq (.reg [
       ⟨none, some 4, .mv (.k (.c (.i 0)))⟩])
    (.ret))
   (.skip)))
 (.seq (.regq [
    ⟨none, some 13, .ldn 3 (.t 3)⟩,
    ⟨none, some 14, .call n_impl_LevelOf [.t 13]⟩,
    ⟨none, some 15, .fld 1 (.t 2)⟩,
    ⟨none, some 16, .ld1 (.t 15)⟩,
    ⟨none, some 17, .bin .sub (.t 14) (.t 16)⟩,
    ⟨none, some 18, .mx [.k (.c (.i 0)), .t 17]⟩,
    ⟨none, some 4, .mv (.t 18)⟩])
 (.ret)))
theorem h_impl_DepthIn : Has Try.prog n_impl_DepthIn 19 c_impl_DepthIn [.t 4] := ⟨⟨Try.f76, _, Try.func76, rfl, rfl, by kernel_rfl, by kernel_rfl⟩⟩

def c_laws_eqReach : SC :=
 .seq (.reg [
    ⟨none, some 2, .box 3 (.t 0)⟩,
    ⟨none, some 3, .box 3 (.t 1)⟩,
    ⟨none, some 4, .mv (.k (.c (.b false)))⟩])
 (.seq (.seq (.reg [
     ⟨none, some 5, .fld 0 (.t 2)⟩,
     ⟨none, some 6, .ld1 (.t 5)⟩,
     ⟨none, some 7, .fld 0 (.t 3)⟩,
     ⟨none, some 8, .ld1 (.t 7)⟩,
     ⟨none, some 9, .call n_laws_eqPointS [.t 6, .t 8]⟩,
     ⟨none, some 10, .not (.t 9)⟩])
  (.cond (.t 10)
   (.seq (.reg [
       ⟨none, some 4, .mv (.k (.c (.b false)))⟩])
    (.ret))
   (.skip)))
 (.seq (.seq (.reg [
     ⟨none, some 11, .fld 1 (.t 2)⟩,
     ⟨none, some 12, .ld1 (.t 11)⟩,
     ⟨none, some 13, .fld 1 (.t 3)⟩,
     ⟨none, some 14, .ld1 (.t 13)⟩,
     ⟨none, some 15, .bin .neq (.t 12) (.t 14)⟩])
  (.cond (.t 15)
   (.seq (.reg [
       ⟨none, some 4, .mv (.k (.c (.b false)))⟩])
    (.ret))
   (.skip)))
 (.seq (.seq (.reg [
     ⟨none, some 16, .fld 2 (.t 2)⟩,
     ⟨none, some 17, .ld1 (.t 16)⟩,
     ⟨none, some 18, .fld 2 (.t 3)⟩,
     ⟨none, some 19, .ld1 (.t 18)⟩,
     ⟨none, some 20, .call n_laws_eqIntS [.t 17, .t 19]⟩,
     ⟨none, some 21, .not (.t 20)⟩])
  (.cond (.t 21)
   (.seq (.reg [
       ⟨none, some 4, .mv (.k (.c (.b false)))⟩])
    (.ret))
   (.skip)))
 (.seq (.reg [
    ⟨none, some 4, .mv (.k (.c (.b true)))⟩])
 (.ret)))))
theorem h_laws_eqReach : Has Try.prog n_laws_eqReach 22 c_laws_eqReach [.t 4] := ⟨⟨Try.f77, _, Try.func77, rfl, rfl, by kernel_rfl, by kernel_rfl⟩⟩

def c_spec_TollOf : SC :=
 .seq (.reg [
    ⟨none, some 2, .box 4 (.t 0)⟩,
    ⟨none, some 3, .box 2 (.t 1)⟩,
    ⟨none, some 4, .mv (.k (.c (.i 0)))⟩])
 (.seq (.seq (.reg [
     ⟨none, some 5, .ldn 4 (.t 2)⟩,
     ⟨none, some 6, .call n_spec_TariffOk [.t 5]⟩,
     ⟨none, some 7, .not (.t 6)⟩,
     ⟨none, some 8, .mv (.t 7)⟩,
     ⟨some (8, false), some 9, .ldn 2 (.t 3)⟩,
     ⟨some (8, false), some 10, .call n_spec_TrainOk [.t 9]⟩,
     ⟨some (8, false), some 11, .not (.t 10)⟩,
     ⟨none, some 12, .pick (.t 8) (.k (.c (.b true))) (.t 11)⟩])
  (.cond (.t 12)
   (.seq (.reg [
       ⟨none, some 4, .mv (.k (.c (.i 0)))⟩])
    (.ret))
   (.skip)))
 (.seq (.regq [
    ⟨none, some 13, .fld 0 (.t 2)⟩,
    ⟨none, some 14, .ld1 (.t 13)⟩,
    ⟨none, some 15, .fld 1 (.t 2)⟩,
    ⟨none, some 16, .ld1 (.t 15)⟩,
    ⟨none, some 17, .ldn 2 (.t 3)⟩,
    ⟨none, some 18, .call n_spec_LengthOf [.t 17]⟩,
    ⟨none, some 19, .bin .mul (.t 16) (.t 18)⟩,
    ⟨none, some 20, .ldn 2 (.t 3)⟩,
    ⟨none, some 21, .call n_spec_WidthOf [.t 20]⟩,
    ⟨none, some 22, .bin .mul (.t 19) (.t 21)⟩,
    ⟨none, some 23, .bin .quo (.t 22) (.k (.c (.i 100)))⟩,
    ⟨none, some 24, .bin .add (.t 14) (.t 23)⟩,
    ⟨none, some 25, .fld 2 (.t 2)⟩,
    ⟨none, some 26, .ld1 (.t 25)⟩,
    ⟨none, some 27, .ldn 2 (.t 3)⟩,
    ⟨none, some 28, .call n_spec_ClassOf [.t 27]⟩,
    ⟨none, some 29, .idx 1 (.t 26) (.t 28)⟩,
    ⟨none, some 30, .ld1 (.t 29)⟩,
    ⟨none, some 31, .bin .add (.t 24) (.t 30)⟩,
    ⟨none, some 4, .mv (.t 31)⟩])
 (.ret)))
theorem h_spec_TollOf : Has Try.prog n_spec_TollOf 32 c_spec_TollOf [.t 4] := ⟨⟨Try.f78, _, Try.func78, rfl, rfl, by kernel_rfl, by kernel_rfl⟩⟩

def c_impl_TollOf : SC :=
 .seq (.reg [
    ⟨none, some 2, .box 4 (.t 0)⟩,
    ⟨none, some 3, .box 2 (.t 1)⟩,
    ⟨none, some 4, .mv (.k (.c (.i 0)))⟩])
 (.seq (.seq (.reg [
     ⟨none, some 5, .ldn 4 (.t 2)⟩,
     ⟨none, some 6, .call n_impl_TariffOk [.t 5]⟩,
     ⟨none, some 7, .not (.t 6)⟩,
     ⟨none, some 8, .mv (.t 7)⟩,
     ⟨some (8, false), some 9, .ldn 2 (.t 3)⟩,
     ⟨some (8, false), some 10, .call n_impl_TrainOk [.t 9]⟩,
     ⟨some (8, false), some 11, .not (.t 10)⟩,
     ⟨none, some 12, .pick (.t 8) (.k (.c (.b true))) (.t 11)⟩])
  (.cond (.t 12)
   (.seq (.reg [
       ⟨none, some 4, .mv (.k (.c (.i 0)))⟩])
    (.ret))
   (.skip)))
 (.seq (.regq [
    ⟨none, some 13, .fld 0 (.t 2)⟩,
    ⟨none, some 14, .ld1 (.t 13)⟩,
    ⟨none, some 15, .fld 1 (.t 2)⟩,
    ⟨none, some 16, .ld1 (.t 15)⟩,
    ⟨none, some 17, .ldn 2 (.t 3)⟩,
    ⟨none, some 18, .call n_impl_LengthOf [.t 17]⟩,
    ⟨none, some 19, .bin .mul (.t 16) (.t 18)⟩,
    ⟨none, some 20, .ldn 2 (.t 3)⟩,
    ⟨none, some 21, .call n_impl_WidthOf [.t 20]⟩,
    ⟨none, some 22, .bin .mul (.t 19) (.t 21)⟩,
    ⟨none, some 23, .bin .quo (.t 22) (.k (.c (.i 100)))⟩,
    ⟨none, some 24, .bin .add (.t 14) (.t 23)⟩,
    ⟨none, some 25, .fld 2 (.t 2)⟩,
    ⟨none, some 26, .ld1 (.t 25)⟩,
    ⟨none, some 27, .ldn 2 (.t 3)⟩,
    ⟨none, some 28, .call n_impl_ClassOf [.t 27]⟩,
    ⟨none, some 29, .idx 1 (.t 26) (.t 28)⟩,
    ⟨none, some 30, .ld1 (.t 29)⟩,
    ⟨none, some 31, .bin .add (.t 24) (.t 30)⟩,
    ⟨none, some 4, .mv (.t 31)⟩])
 (.ret)))
theorem h_impl_TollOf : Has Try.prog n_impl_TollOf 32 c_impl_TollOf [.t 4] := ⟨⟨Try.f79, _, Try.func79, rfl, rfl, by kernel_rfl, by kernel_rfl⟩⟩

def c_spec_DrawTrain : SC :=
 .seq (.reg [
    ⟨none, some 2, .alloc [.c (.b false), .nil]⟩])
 (.seq (.reg [
    ⟨none, some 3, .mv (.t 0)⟩,
    ⟨none, some 4, .call n_spec_l01New [.t 3]⟩,
    ⟨none, some 5, .call n_spec_l04Train [.t 4, .k (.c (.i 1))]⟩,
    ⟨none, none, .stn 2 (.t 2) (.t 5)⟩])
 (.ret))
theorem h_spec_DrawTrain : Has Try.prog n_spec_DrawTrain 6 c_spec_DrawTrain [.cl 2 2] := ⟨⟨Try.f80, _, Try.func80, rfl, rfl, by kernel_rfl, by kernel_rfl⟩⟩

def c_spec_DrawWay : SC :=
 .seq (.reg [
    ⟨none, some 2, .alloc [.c (.i 0), .c (.i 0)]⟩])
 (.seq (.reg [
    ⟨none, some 3, .mv (.t 0)⟩,
    ⟨none, some 4, .call n_spec_l01New [.t 3]⟩,
    ⟨none, some 5, .call n_spec_l07Way [.t 4]⟩,
    ⟨none, none, .stn 2 (.t 2) (.t 5)⟩])
 (.ret))
theorem h_spec_DrawWay : Has Try.prog n_spec_DrawWay 6 c_spec_DrawWay [.cl 2 2] := ⟨⟨Try.f81, _, Try.func81, rfl, rfl, by kernel_rfl, by kernel_rfl⟩⟩





def c_impl_TimeTo : SC :=
 .seq (.reg [
    ⟨none, some 3, .box 3 (.t 0)⟩,
    ⟨none, some 4, .box 2 (.t 1)⟩,
    ⟨none, some 5, .box 3 (.t 2)⟩,
    ⟨none, some 6, .mv (.k (.c (.i 0)))⟩])
 (.seq (.seq (.reg [
     ⟨none, some 9, .ldn 3 (.t 3)⟩,
     ⟨none, some 10, .ldn 2 (.t 4)⟩,
     ⟨none, some 11, .call n_impl_MoverOk [.t 9, .t 10]⟩,
     ⟨none, some 12, .not (.t 11)⟩,
     ⟨none, some 13, .mv (.t 12)⟩,
     ⟨some (13, false), some 14, .ldn 3 (.t 5)⟩,
     ⟨some (13, false), some 15, .call n_impl_ReachOk [.t 14]⟩,
     ⟨some (13, false), some 16, .not (.t 15)⟩,
     ⟨none, some 17, .pick (.t 13) (.k (.c (.b true))) (.t 16)⟩])
  (.cond (.t 17)
   (.seq (.reg [
       ⟨none, some 6, .mv (.k (.c (.i (-1))))⟩])
    (.ret))
   (.skip)))
 (.seq (.reg [
    ⟨none, some 18, .fld 2 (.t 3)⟩,
    ⟨none, some 19, .ld1 (.t 18)⟩,
    ⟨none, some 7, .mv (.t 19)⟩])
 (.seq (.seq (.reg [
     ⟨none, some 20, .fld 0 (.t 3)⟩,
     ⟨none, some 21, .fld 0 (.t 20)⟩,
     ⟨none, some 22, .ld1 (.t 21)⟩,
     ⟨none, some 23, .not (.t 22)⟩])
  (.cond (.t 23)
   (.reg [
      ⟨none, some 24, .fld 0 (.t 4)⟩,
      ⟨none, some 25, .ld1 (.t 24)⟩,
      ⟨none, some 26, .fld 2 (.t 3)⟩,
      ⟨none, some 27, .ld1 (.t 26)⟩,
      ⟨none, some 28, .bin .sub (.t 25) (.t 27)⟩,
      ⟨none, some 7, .mv (.t 28)⟩])
   (.skip)))
 (.seq (.seq (.reg [
     ⟨none, some 29, .mv (.t 7)⟩,
     ⟨none, some 30, .bin .eql (.t 29) (.k (.c (.i 0)))⟩])
  (.cond (.t 30)
   (.seq (.reg [
       ⟨none, some 6, .mv (.k (.c (.i 0)))⟩])
    (.ret))
   (.skip)))
 (.seq (.regq [
    ⟨none, some 31, .fld 0 (.t 3)⟩,
    ⟨none, some 32, .ldn 2 (.t 31)⟩,
    ⟨none, some 33, .ldn 2 (.t 4)⟩,
    ⟨none, some 34, .ldn 3 (.t 5)⟩,
    ⟨none, some 35, .call n_impl_DepthIn [.t 33, .t 34]⟩,
    ⟨none, some 36, .call n_impl_PaceOf [.t 32, .t 35]⟩,
    ⟨none, some 8, .mv (.t 36)⟩])
 (.seq (.seq (.reg [
     ⟨none, some 37, .mv (.t 8)⟩,
     ⟨none, some 38, .bin .eql (.t 37) (.k (.c (.i 0)))⟩])
  (.cond (.t 38)
   (.seq (.reg [
       ⟨none, some 6, .mv (.k (.c (.i (-1))))⟩])
    (.ret))
   (.skip)))
 (.seq (.reg [
    ⟨none, some 39, .mv (.t 7)⟩,
    ⟨none, some 40, .mv (.t 8)⟩,
    ⟨none, some 41, .bin .add (.t 39) (.t 40)⟩,
    ⟨none, some 42, .bin .sub (.t 41) (.k (.c (.i 1)))⟩,
    ⟨none, some 43, .mv (.t 8)⟩,
    ⟨none, some 44, .bin .quo (.t 42) (.t 43)⟩,
    ⟨none, some 6, .mv (.t 44)⟩])
 (.ret))))))))
theorem h_impl_TimeTo : Has Try.prog n_impl_TimeTo 45 c_impl_TimeTo [.t 6] := ⟨⟨Try.f84, _, Try.func84, rfl, rfl, by kernel_rfl, by kernel_rfl⟩⟩

def c_spec_DraughtOf : SC :=
 .seq (.reg [
    ⟨none, some 1, .box 2 (.t 0)⟩,
    ⟨none, some 2, .mv (.k (.c (.i 0)))⟩])
 (.seq (.reg [
    ⟨none, some 3, .mv (.k (.c (.i 0)))⟩])
 (.seq (.reg [
    ⟨none, some 6, .ldn 2 (.t 1)⟩,
    ⟨none, some 7, .call n_spec_l04Boats [.t 6]⟩,
    ⟨none, some 4, .mv (.t 7)⟩])
 (.seq (.seq (.reg [
     ⟨none, some 5, .mv (.k (.c (.i 0)))⟩])
  (.block 0 (.loop (.seq (.seq (.reg [
        ⟨none, some 8, .mv (.t 5)⟩,
        ⟨none, some 9, .mv (.t 4)⟩,
        ⟨none, some 10, .len (.t 9)⟩,
        ⟨none, some 11, .bin .lss (.t 8) (.t 10)⟩,
        ⟨none, some 12, .mv (.t 11)⟩,
        ⟨some (12, true), some 13, .ldn 2 (.t 1)⟩,
        ⟨some (12, true), some 14, .call n_spec_TrainOk [.t 13]⟩,
        ⟨none, some 15, .pick (.t 12) (.t 14) (.k (.c (.b false)))⟩])
     (.cond (.t 15)
      (.skip)
      (.exit 0)))
    (.seq (.block 1 (.reg [
        ⟨none, some 18, .mv (.t 3)⟩,
        ⟨none, some 19, .mv (.t 4)⟩,
        ⟨none, some 20, .mv (.t 5)⟩,
        ⟨none, some 21, .idx 6 (.t 19) (.t 20)⟩,
        ⟨none, some 22, .fld 3 (.t 21)⟩,
        ⟨none, some 23, .ld1 (.t 22)⟩,
        ⟨none, some 24, .mx [.t 18, .t 23]⟩,
        ⟨none, some 3, .mv (.t 24)⟩]))
    (.reg [
      ⟨none, some 16, .mv (.t 5)⟩,
      ⟨none, some 17, .bin .add (.t 16) (.k (.c (.i 1)))⟩,
      ⟨none, some 5, .mv (.t 17)⟩]))))))
 (.seq (.reg [
    ⟨none, some 25, .mv (.t 3)⟩,
    ⟨none, some 2, .mv (.t 25)⟩])
 (.ret)))))
theorem h_spec_DraughtOf : Has Try.prog n_spec_DraughtOf 26 c_spec_DraughtOf [.t 2] := ⟨⟨Try.f85, _, Try.func85, rfl, rfl, by kernel_rfl, by kernel_rfl⟩⟩

def c_impl_GroundedOf : SC :=
 .seq (.reg [
    ⟨none, some 4, .box 2 (.t 1)⟩,
    ⟨none, some 5, .box 3 (.t 2)⟩,
    ⟨none, some 6, .mv (.k (.nil))⟩])
 (.seq (.seq (.reg [
     ⟨none, some 11, .ldn 2 (.t 4)⟩,
     ⟨none, some 12, .call n_impl_WayOk [.t 11]⟩,
     ⟨none, some 13, .not (.t 12)⟩,
     ⟨none, some 14, .mv (.t 13)⟩,
     ⟨some (14, false), some 15, .ldn 3 (.t 5)⟩,
     ⟨some (14, false), some 16, .call n_impl_ReachOk [.t 15]⟩,
     ⟨some (14, false), some 17, .not (.t 16)⟩,
     ⟨none, some 18, .pick (.t 14) (.k (.c (.b true))) (.t 17)⟩])
  (.cond (.t 18)
   (.seq (.reg [
       ⟨none, some 6, .mv (.k (.nil))⟩])
    (.ret))
   (.skip)))
 (.seq (.reg [
    ⟨none, some 19, .ldn 2 (.t 4)⟩,
    ⟨none, some 20, .ldn 3 (.t 5)⟩,
    ⟨none, some 21, .call n_impl_DepthIn [.t 19, .t 20]⟩,
    ⟨none, some 7, .mv (.t 21)⟩])
 (.seq (.reg [
    ⟨none, some 8, .mv (.k (.nil))⟩])
 (.seq (.seq (.reg [
     ⟨none, some 22, .mv (.t 0)⟩,
     ⟨none, some 23, .len (.t 22)⟩,
     ⟨none, some 24, .mv (.k (.c (.i 0)))⟩])
  (.block 0 (.loop (.seq (.reg [
       ⟨none, some 25, .bin .lss (.t 24) (.t 23)⟩])
    (.seq (.cond (.t 25)
      (.skip)
      (.exit 0))
    (.seq (.block 1 (.seq (.reg [
         ⟨none, some 26, .idx 3 (.t 22) (.t 24)⟩,
         ⟨none, some 27, .ldn 3 (.t 26)⟩,
         ⟨none, some 10, .alloc [.c (.b false), .nil, .c (.i 0)]⟩,
         ⟨none, none, .stn 3 (.t 10) (.t 27)⟩])
      (.seq (.reg [
         ⟨none, some 28, .ldn 3 (.t 10)⟩,
         ⟨none, some 29, .ldn 2 (.t 4)⟩,
         ⟨none, some 30, .call n_impl_MoverOk [.t 28, .t 29]⟩,
         ⟨none, some 31, .mv (.t 30)⟩,
         ⟨some (31, true), some 32, .fld 0 (.t 10)⟩,
         ⟨some (31, true), some 33, .ldn 2 (.t 32)⟩,
         ⟨some (31, true), some 34, .mv (.t 7)⟩,
         ⟨some (31, true), some 35, .call n_impl_PaceOf [.t 33, .t 34]⟩,
         ⟨some (31, true), some 36, .bin .eql (.t 35) (.k (.c (.i 0)))⟩,
         ⟨none, some 37, .pick (.t 31) (.t 36) (.k (.c (.b false)))⟩])
      (.cond (.t 37)
       (.reg [
          ⟨none, some 38, .mv (.t 8)⟩,
          ⟨none, some 39, .fld 0 (.t 10)⟩,
          ⟨none, some 40, .ldn 2 (.t 39)⟩,
          ⟨none, some 41, .call n_impl_IdsOf [.t 40]⟩,
          ⟨none, some 42, .idx 1 (.t 41) (.k (.c (.i 0)))⟩,
          ⟨none, some 43, .ld1 (.t 42)⟩,
          ⟨none, some 44, .bsl 1 [.t 43]⟩,
          ⟨none, some 45, .app 1 8 (.t 38) (.t 44)⟩,
          ⟨none, some 8, .mv (.t 45)⟩])
       (.skip)))))
    (.reg [
      ⟨none, some 46, .bin .add (.t 24) (.k (.c (.i 1)))⟩,
      ⟨none, some 24, .mv (.t 46)⟩])))))))
 (.seq (.reg [
    ⟨none, some 47, .mv (.t 8)⟩,
    ⟨none, some 6, .mv (.t 47)⟩])
 (.ret))))))
theorem h_impl_GroundedOf : Has Try.prog n_impl_GroundedOf 48 c_impl_GroundedOf [.t 6] := ⟨⟨Try.f86, _, Try.func86, rfl, rfl, by kernel_rfl, by kernel_rfl⟩⟩

def c_impl_MoveOne : SC :=
 .seq (.reg [
    ⟨none, some 3, .box 3 (.t 0)⟩,
    ⟨none, some 4, .box 2 (.t 1)⟩,
    ⟨none, some 5, .box 3 (.t 2)⟩,
    ⟨none, some 6, .alloc [.c (.b false), .nil, .c (.i 0)]⟩])
 (.seq (.reg [
    ⟨none, some 8, .ldn 3 (.t 3)⟩,
    ⟨none, some 9, .ldn 2 (.t 4)⟩,
    ⟨none, some 10, .ldn 3 (.t 5)⟩,
    ⟨none, some 11, .call n_impl_moved [.t 8, .t 9, .t 10]⟩,
    ⟨none, some 7, .alloc [.c (.b false), .nil, .c (.i 0)]⟩,
    ⟨none, none, .stn 3 (.t 7) (.t 11)⟩])
 (.seq (.reg [
    ⟨none, some 12, .fld 0 (.t 3)⟩,
    ⟨none, some 13, .ldn 2 (.t 12)⟩,
    ⟨none, some 14, .call n_impl_copyTrain [.t 13]⟩,
    ⟨none, some 15, .fld 0 (.t 7)⟩,
    ⟨none, none, .stn 2 (.t 15) (.t 14)⟩])
 (.seq (.reg [
    ⟨none, some 16, .ldn 3 (.t 7)⟩,
    ⟨none, none, .stn 3 (.t 6) (.t 16)⟩])
 (.ret))))
theorem h_impl_MoveOne : Has Try.prog n_impl_MoveOne 17 c_impl_MoveOne [.cl 6 3] := ⟨⟨Try.f87, _, Try.func87, rfl, rfl, by kernel_rfl, by kernel_rfl⟩⟩

def c_spec_SpeedOf : SC :=
 .seq (.reg [
    ⟨none, some 1, .box 2 (.t 0)⟩,
    ⟨none, some 2, .mv (.k (.c (.i 0)))⟩])
 (.seq (.reg [
    ⟨none, some 6, .ldn 2 (.t 1)⟩,
    ⟨none, some 7, .call n_spec_l04Boats [.t 6]⟩,
    ⟨none, some 3, .mv (.t 7)⟩])
 (.seq (.seq (.reg [
     ⟨none, some 8, .ldn 2 (.t 1)⟩,
     ⟨none, some 9, .call n_spec_TrainOk [.t 8]⟩,
     ⟨none, some 10, .not (.t 9)⟩])
  (.cond (.t 10)
   (.seq (.reg [
       ⟨none, some 2, .mv (.k (.c (.i 0)))⟩])
    (.ret))
   (.skip)))
 (.seq (.reg [
    ⟨none, some 11, .mv (.t 3)⟩,
    ⟨none, some 12, .idx 6 (.t 11) (.k (.c (.i 0)))⟩,
    ⟨none, some 13, .fld 4 (.t 12)⟩,
    ⟨none, some 14, .ld1 (.t 13)⟩,
    ⟨none, some 4, .mv (.t 14)⟩])
 (.seq (.seq (.reg [
     ⟨none, some 5, .mv (.k (.c (.i 0)))⟩])
  (.block 0 (.loop (.seq (.seq (.reg [
        ⟨none, some 15, .mv (.t 5)⟩,
        ⟨none, some 16, .mv (.t 3)⟩,
        ⟨none, some 17, .len (.t 16)⟩,
        ⟨none, some 18, .bin .lss (.t 15) (.t 17)⟩])
     (.cond (.t 18)
      (.skip)
      (.exit 0)))
    (.seq (.block 1 (.reg [
        ⟨none, some 21, .mv (.t 4)⟩,
        ⟨none, some 22, .mv (.t 3)⟩,
        ⟨none, some 23, .mv (.t 5)⟩,
        ⟨none, some 24, .idx 6 (.t 22) (.t 23)⟩,
        ⟨none, some 25, .fld 4 (.t 24)⟩,
        ⟨none, some 26, .ld1 (.t 25)⟩,
        ⟨none, some 27, .mn [.t 21, .t 26]⟩,
        ⟨none, some 4, .mv (.t 27)⟩]))
    (.reg [
      ⟨none, some 19, .mv (.t 5)⟩,
      ⟨none, some 20, .bin .add (.t 19) (.k (.c (.i 1)))⟩,
      ⟨none, some 5, .mv (.t 20)⟩]))))))
 (.seq (.reg [
    ⟨none, some 28, .mv (.t 4)⟩,
    ⟨none, some 2, .mv (.t 28)⟩])
 (.ret))))))
theorem h_spec_SpeedOf : Has Try.prog n_spec_SpeedOf 29 c_spec_SpeedOf [.t 2] := ⟨⟨Try.f88, _, Try.func88, rfl, rfl, by kernel_rfl, by kernel_rfl⟩⟩

def c_spec_DrawTariff : SC :=
 .seq (.reg [
    ⟨none, some 2, .alloc [.c (.i 0), .c (.i 0), .nil, .nil]⟩])
 (.seq (.reg [
    ⟨none, some 3, .mv (.t 0)⟩,
    ⟨none, some 4, .call n_spec_l01New [.t 3]⟩,
    ⟨none, some 5, .call n_spec_l08Tariff [.t 4]⟩,
    ⟨none, none, .stn 4 (.t 2) (.t 5)⟩])
 (.ret))
theorem h_spec_DrawTariff : Has Try.prog n_spec_DrawTariff 6 c_spec_DrawTariff [.cl 2 4] := ⟨⟨Try.f89, _, Try.func89, rfl, rfl, by kernel_rfl, by kernel_rfl⟩⟩

def c_impl_TollEntries : SC :=
 .seq (.reg [
    ⟨none, some 3, .box 4 (.t 0)⟩,
    ⟨none, some 4, .box 2 (.t 1)⟩,
    ⟨none, some 6, .mv (.k (.nil))⟩])
 (.seq (.seq (.reg [
     ⟨none, some 11, .ldn 4 (.t 3)⟩,
     ⟨none, some 12, .call n_impl_TariffOk [.t 11]⟩,
     ⟨none, some 13, .not (.t 12)⟩,
     ⟨none, some 14, .mv (.t 13)⟩,
     ⟨some (14, false), some 15, .ldn 2 (.t 4)⟩,
     ⟨some (14, false), some 16, .call n_impl_TrainOk [.t 15]⟩,
     ⟨some (14, false), some 17, .not (.t 16)⟩,
     ⟨none, some 18, .pick (.t 14) (.k (.c (.b true))) (.t 17)⟩,
     ⟨none, some 19, .mv (.t 18)⟩,
     ⟨some (19, false), some 20, .mv (.t 2)⟩,
     ⟨some (19, false), some 21, .call n_impl_inRange [.t 20, .k (.c (.i 0)), .k (.c (.i 1000000))]⟩,
     ⟨some (19, false), some 22, .not (.t 21)⟩,
     ⟨none, some 23, .pick (.t 19) (.k (.c (.b true))) (.t 22)⟩])
  (.cond (.t 23)
   (.seq (.reg [
       ⟨none, some 6, .mv (.k (.nil))⟩])
    (.ret))
   (.skip)))
 (.seq (.reg [
    ⟨none, some 24, .ldn 2 (.t 4)⟩,
    ⟨none, some 25, .call n_impl_IdsOf [.t 24]⟩,
    ⟨none, some 26, .idx 1 (.t 25) (.k (.c (.i 0)))⟩,
    ⟨none, some 27, .ld1 (.t 26)⟩,
    ⟨none, some 7, .mv (.t 27)⟩])
 (.seq (.reg [
    ⟨none, some 8, .mv (.k (.nil))⟩])
 (.seq (.seq (.regq [
     ⟨none, some 28, .ldn 4 (.t 3)⟩,
     ⟨none, some 29, .ldn 2 (.t 4)⟩,
     ⟨none, some 30, .call n_impl_TollOf [.t 28, .t 29]⟩,
     ⟨none, some 31, .fld 3 (.t 3)⟩,
     ⟨none, some 32, .ld1 (.t 31)⟩,
     ⟨none, some 33, .call n_impl_ShareOut [.t 30, .t 32]⟩,
     ⟨none, some 34, .len (.t 33)⟩,
     ⟨none, some 35, .mv (.k (.c (.i 0)))⟩])
  (.block 0 (.loop (.seq (.reg [
       ⟨none, some 36, .bin .lss (.t 35) (.t 34)⟩])
    (.seq (.cond (.t 36)
      (.skip)
      (.exit 0))
    (.seq (.block 1 (.seq (.reg [
         ⟨none, some 37, .mv (.t 35)⟩,
         ⟨none, some 38, .idx 1 (.t 33) (.t 35)⟩,
         ⟨none, some 39, .ld1 (.t 38)⟩,
         ⟨none, some 9, .mv (.t 37)⟩,
         ⟨none, some 10, .mv (.t 39)⟩])
      (.seq (.reg [
         ⟨none, some 40, .mv (.t 10)⟩,
         ⟨none, some 41, .bin .gtr (.t 40) (.k (.c (.i 0)))⟩])
      (.cond (.t 41)
       (.reg [
          ⟨none, some 42, .mv (.t 8)⟩,
          ⟨none, some 43, .mv (.t 9)⟩,
          ⟨none, some 44, .bin .add (.t 43) (.k (.c (.i 1)))⟩,
          ⟨none, some 45, .mv (.t 10)⟩,
          ⟨none, some 46, .mv (.t 2)⟩,
          ⟨none, some 47, .mv (.t 7)⟩,
          ⟨none, some 48, .bld [.c (.i 0), .c (.i 0), .c (.i 0), .c (.i 0), .c (.i 0)] [(0, 1, .k (.c (.i 0))), (1, 1, .t 44), (2, 1, .t 45), (3, 1, .t 46), (4, 1, .t 47)]⟩,
          ⟨none, some 49, .bsl 5 [.t 48]⟩,
          ⟨none, some 50, .app 5 40 (.t 42) (.t 49)⟩,
          ⟨none, some 8, .mv (.t 50)⟩])
       (.skip)))))
    (.reg [
      ⟨none, some 51, .bin .add (.t 35) (.k (.c (.i 1)))⟩,
      ⟨none, some 35, .mv (.t 51)⟩])))))))
 (.seq (.reg [
    ⟨none, some 52, .mv (.t 8)⟩,
    ⟨none, some 6, .mv (.t 52)⟩])
 (.ret))))))
theorem h_impl_TollEntries : Has Try.prog n_impl_TollEntries 53 c_impl_TollEntries [.t 6] := ⟨⟨Try.f90, _, Try.func90, rfl, rfl, by kernel_rfl, by kernel_rfl⟩⟩

def c_spec_IdsOf : SC :=
 .seq (.reg [
    ⟨none, some 1, .box 2 (.t 0)⟩,
    ⟨none, some 2, .mv (.k (.nil))⟩])
 (.seq (.reg [
    ⟨none, some 6, .bsl 1 []⟩,
    ⟨none, some 3, .mv (.t 6)⟩])
 (.seq (.reg [
    ⟨none, some 7, .ldn 2 (.t 1)⟩,
    ⟨none, some 8, .call n_spec_l04Boats [.t 7]⟩,
    ⟨none, some 4, .mv (.t 8)⟩])
 (.seq (.seq (.reg [
     ⟨none, some 5, .mv (.k (.c (.i 0)))⟩])
  (.block 0 (.loop (.seq (.seq (.reg [
        ⟨none, some 9, .mv (.t 5)⟩,
        ⟨none, some 10, .mv (.t 4)⟩,
        ⟨none, some 11, .len (.t 10)⟩,
        ⟨none, some 12, .bin .lss (.t 9) (.t 11)⟩,
        ⟨none, some 13, .mv (.t 12)⟩,
        ⟨some (13, true), some 14, .ldn 2 (.t 1)⟩,
        ⟨some (13, true), some 15, .call n_spec_TrainOk [.t 14]⟩,
        ⟨none, some 16, .pick (.t 13) (.t 15) (.k (.c (.b false)))⟩])
     (.cond (.t 16)
      (.skip)
      (.exit 0)))
    (.seq (.block 1 (.reg [
        ⟨none, some 19, .mv (.t 3)⟩,
        ⟨none, some 20, .mv (.t 4)⟩,
        ⟨none, some 21, .mv (.t 5)⟩,
        ⟨none, some 22, .idx 6 (.t 20) (.t 21)⟩,
        ⟨none, some 23, .fld 0 (.t 22)⟩,
        ⟨none, some 24, .ld1 (.t 23)⟩,
        ⟨none, some 25, .bsl 1 [.t 24]⟩,
        ⟨none, some 26, .app 1 8 (.t 19) (.t 25)⟩,
        ⟨none, some 3, .mv (.t 26)⟩]))
    (.reg [
      ⟨none, some 17, .mv (.t 5)⟩,
      ⟨none, some 18, .bin .add (.t 17) (.k (.c (.i 1)))⟩,
      ⟨none, some 5, .mv (.t 18)⟩]))))))
 (.seq (.reg [
    ⟨none, some 27, .mv (.t 3)⟩,
    ⟨none, some 2, .mv (.t 27)⟩])
 (.ret)))))
theorem h_spec_IdsOf : Has Try.prog n_spec_IdsOf 28 c_spec_IdsOf [.t 2] := ⟨⟨Try.f91, _, Try.func91, rfl, rfl, by kernel_rfl, by kernel_rfl⟩⟩

def c_laws_szCallS : SC :=
 .seq (.reg [
    ⟨none, some 4, .mv (.k (.c (.i 0)))⟩])
 (.seq (.reg [
    ⟨none, some 6, .mv (.t 1)⟩,
    ⟨none, some 7, .mv (.t 0)⟩,
    ⟨none, some 8, .len (.t 7)⟩,
    ⟨none, some 9, .bin .sub (.t 6) (.t 8)⟩,
    ⟨none, some 1, .mv (.t 9)⟩])
 (.seq (.seq (.reg [
     ⟨none, some 10, .mv (.t 1)⟩,
     ⟨none, some 11, .bin .lss (.t 10) (.k (.c (.i 0)))⟩])
  (.cond (.t 11)
   (.seq (.reg [
       ⟨none, some 4, .mv (.k (.c (.i (-1))))⟩])
    (.ret))
   (.skip)))
 (.seq (.seq (.reg [
     ⟨none, some 5, .mv (.k (.c (.i 0)))⟩])
  (.block 0 (.loop (.seq (.seq (.reg [
        ⟨none, some 12, .mv (.t 5)⟩,
        ⟨none, some 13, .mv (.t 0)⟩,
        ⟨none, some 14, .len (.t 13)⟩,
        ⟨none, some 15, .bin .lss (.t 12) (.t 14)⟩])
     (.cond (.t 15)
      (.skip)
      (.exit 0)))
    (.seq (.block 1 (.seq (.reg [
         ⟨none, some 18, .mv (.t 0)⟩,
         ⟨none, some 19, .mv (.t 5)⟩,
         ⟨none, some 20, .idx 4 (.t 18) (.t 19)⟩,
         ⟨none, some 21, .ldn 4 (.t 20)⟩,
         ⟨none, some 22, .mv (.t 1)⟩,
         ⟨none, some 23, .call n_laws_szCall [.t 21, .t 22]⟩,
         ⟨none, some 1, .mv (.t 23)⟩])
      (.seq (.reg [
         ⟨none, some 24, .mv (.t 1)⟩,
         ⟨none, some 25, .bin .lss (.t 24) (.k (.c (.i 0)))⟩])
      (.cond (.t 25)
       (.seq (.reg [
           ⟨none, some 4, .mv (.k (.c (.i (-1))))⟩])
        (.ret))
       (.skip)))))
    (.reg [
      ⟨none, some 16, .mv (.t 5)⟩,
      ⟨none, some 17, .bin .add (.t 16) (.k (.c (.i 1)))⟩,
      ⟨none, some 5, .mv (.t 17)⟩]))))))
 (.seq (.reg [
    ⟨none, some 26, .mv (.t 1)⟩,
    ⟨none, some 4, .mv (.t 26)⟩])
 (.ret)))))
theorem h_laws_szCallS : Has Try.prog n_laws_szCallS 27 c_laws_szCallS [.t 4] := ⟨⟨Try.f92, _, Try.func92, rfl, rfl, by kernel_rfl, by kernel_rfl⟩⟩

def c_spec_NextSide : SC :=
 .seq (.reg [
    ⟨none, some 4, .box 2 (.t 1)⟩,
    ⟨none, some 6, .mv (.k (.c (.b false)))⟩,
    ⟨none, some 7, .mv (.k (.c (.b false)))⟩])
 (.seq (.reg [
    ⟨none, some 11, .mv (.t 0)⟩,
    ⟨none, some 12, .mv (.t 2)⟩,
    ⟨none, some 13, .call n_spec_OrderCalls [.t 11, .t 12]⟩,
    ⟨none, some 8, .mv (.t 13)⟩])
 (.seq (.seq (.reg [
     ⟨none, some 14, .mv (.t 8)⟩,
     ⟨none, some 15, .len (.t 14)⟩,
     ⟨none, some 16, .bin .eql (.t 15) (.k (.c (.i 0)))⟩,
     ⟨none, some 17, .mv (.t 16)⟩,
     ⟨some (17, false), some 18, .ldn 2 (.t 4)⟩,
     ⟨some (17, false), some 19, .call n_spec_TurnOk [.t 18]⟩,
     ⟨some (17, false), some 20, .not (.t 19)⟩,
     ⟨none, some 21, .pick (.t 17) (.k (.c (.b true))) (.t 20)⟩])
  (.cond (.t 21)
   (.seq (.reg [
       ⟨none, some 6, .mv (.k (.c (.b false)))⟩,
       ⟨none, some 7, .mv (.k (.c (.b false)))⟩])
    (.ret))
   (.skip)))
 (.seq (.reg [
    ⟨none, some 22, .mv (.t 0)⟩,
    ⟨none, some 23, .mv (.t 8)⟩,
    ⟨none, some 24, .idx 1 (.t 23) (.k (.c (.i 0)))⟩,
    ⟨none, some 25, .ld1 (.t 24)⟩,
    ⟨none, some 26, .idx 4 (.t 22) (.t 25)⟩,
    ⟨none, some 27, .fld 0 (.t 26)⟩,
    ⟨none, some 28, .fld 0 (.t 27)⟩,
    ⟨none, some 29, .ld1 (.t 28)⟩,
    ⟨none, some 9, .mv (.t 29)⟩])
 (.seq (.seq (.reg [
     ⟨none, some 30, .mv (.t 9)⟩,
     ⟨none, some 31, .fld 0 (.t 4)⟩,
     ⟨none, some 32, .ld1 (.t 31)⟩,
     ⟨none, some 33, .beq true (.t 30) (.t 32)⟩,
     ⟨none, some 34, .mv (.t 33)⟩,
     ⟨some (34, false), some 35, .fld 1 (.t 4)⟩,
     ⟨some (34, false), some 36, .ld1 (.t 35)⟩,
     ⟨some (34, false), some 37, .bin .lss (.t 36) (.k (.c (.i 3)))⟩,
     ⟨none, some 38, .pick (.t 34) (.k (.c (.b true))) (.t 37)⟩])
  (.cond (.t 38)
   (.seq (.reg [
       ⟨none, some 39, .mv (.t 9)⟩,
       ⟨none, some 6, .mv (.t 39)⟩,
       ⟨none, some 7, .mv (.k (.c (.b true)))⟩])
    (.ret))
   (.skip)))
 (.seq (.seq (.reg [
     ⟨none, some 10, .mv (.k (.c (.i 0)))⟩])
  (.block 0 (.loop (.seq (.seq (.reg [
        ⟨none, some 40, .mv (.t 10)⟩,
        ⟨none, some 41, .mv (.t 8)⟩,
        ⟨none, some 42, .len (.t 41)⟩,
        ⟨none, some 43, .bin .lss (.t 40) (.t 42)⟩])
     (.cond (.t 43)
      (.skip)
      (.exit 0)))
    (.seq (.block 1 (.seq (.reg [
         ⟨none, some 46, .mv (.t 0)⟩,
         ⟨none, some 47, .mv (.t 8)⟩,
         ⟨none, some 48, .mv (.t 10)⟩,
         ⟨none, some 49, .idx 1 (.t 47) (.t 48)⟩,
         ⟨none, some 50, .ld1 (.t 49)⟩,
         ⟨none, some 51, .idx 4 (.t 46) (.t 50)⟩,
         ⟨none, some 52, .fld 0 (.t 51)⟩,
         ⟨none, some 53, .fld 0 (.t 52)⟩,
         ⟨none, some 54, .ld1 (.t 53)⟩,
         ⟨none, some 55, .mv (.t 9)⟩,
         ⟨none, some 56, .beq true (.t 54) (.t 55)⟩])
      (.cond (.t 56)
       (.seq (.reg [
           ⟨none, some 57, .mv (.t 9)⟩,
           ⟨none, some 58, .not (.t 57)⟩,
           ⟨none, some 6, .mv (.t 58)⟩,
           ⟨none, some 7, .mv (.k (.c (.b true)))⟩])
        (.ret))
       (.skip))))
    (.reg [
      ⟨none, some 44, .mv (.t 10)⟩,
      ⟨none, some 45, .bin .add (.t 44) (.k (.c (.i 1)))⟩,
      ⟨none, some 10, .mv (.t 45)⟩]))))))
 (.seq (.reg [
    ⟨none, some 59, .mv (.t 9)⟩,
    ⟨none, some 6, .mv (.t 59)⟩,
    ⟨none, some 7, .mv (.k (.c (.b true)))⟩])
 (.ret)))))))
theorem h_spec_NextSide : Has Try.prog n_spec_NextSide 60 c_spec_NextSide [.t 6, .t 7] := ⟨⟨Try.f93, _, Try.func93, rfl, rfl, by kernel_rfl, by kernel_rfl⟩⟩

def c_laws_toCallS : SC :=
 .seq (.reg [
    ⟨none, some 2, .mv (.k (.nil))⟩])
 (.seq (.reg [
    ⟨none, some 5, .mv (.t 0)⟩,
    ⟨none, some 6, .len (.t 5)⟩,
    ⟨none, some 7, .mks 4 48 [.b false, .sl 1 [], .i 0, .i 0] (.t 6) (.t 6)⟩,
    ⟨none, some 3, .mv (.t 7)⟩])
 (.seq (.seq (.reg [
     ⟨none, some 4, .mv (.k (.c (.i 0)))⟩])
  (.block 0 (.loop (.seq (.seq (.reg [
        ⟨none, some 8, .mv (.t 4)⟩,
        ⟨none, some 9, .mv (.t 0)⟩,
        ⟨none, some 10, .len (.t 9)⟩,
        ⟨none, some 11, .bin .lss (.t 8) (.t 10)⟩])
     (.cond (.t 11)
      (.skip)
      (.exit 0)))
    (.seq (.block 1 (.reg [
        ⟨none, some 14, .mv (.t 3)⟩,
        ⟨none, some 15, .mv (.t 4)⟩,
        ⟨none, some 16, .mv (.t 0)⟩,
        ⟨none, some 17, .mv (.t 4)⟩,
        ⟨none, some 18, .idx 4 (.t 16) (.t 17)⟩,
        ⟨none, some 19, .ldn 4 (.t 18)⟩,
        ⟨none, some 20, .call n_laws_toCall [.t 19]⟩,
        ⟨none, some 21, .idx 4 (.t 14) (.t 15)⟩,
        ⟨none, none, .stn 4 (.t 21) (.t 20)⟩]))
    (.reg [
      ⟨none, some 12, .mv (.t 4)⟩,
      ⟨none, some 13, .bin .add (.t 12) (.k (.c (.i 1)))⟩,
      ⟨none, some 4, .mv (.t 13)⟩]))))))
 (.seq (.reg [
    ⟨none, some 22, .mv (.t 3)⟩,
    ⟨none, some 2, .mv (.t 22)⟩])
 (.ret))))
theorem h_laws_toCallS : Has Try.prog n_laws_toCallS 23 c_laws_toCallS [.t 2] := ⟨⟨Try.f94, _, Try.func94, rfl, rfl, by kernel_rfl, by kernel_rfl⟩⟩

def c_laws_toTurn : SC :=
 .seq (.reg [
    ⟨none, some 1, .box 2 (.t 0)⟩,
    ⟨none, some 2, .alloc [.c (.b false), .c (.i 0)]⟩])
 (.seq (.reg [
    ⟨none, some 3, .alloc [.c (.b false), .c (.i 0)]⟩])
 (.seq (.reg [
    ⟨none, some 4, .fld 0 (.t 1)⟩,
    ⟨none, some 5, .ld1 (.t 4)⟩,
    ⟨none, some 6, .fld 0 (.t 3)⟩,
    ⟨none, none, .st1 (.t 6) (.t 5)⟩])
 (.seq (.reg [
    ⟨none, some 7, .fld 1 (.t 1)⟩,
    ⟨none, some 8, .ld1 (.t 7)⟩,
    ⟨none, some 9, .fld 1 (.t 3)⟩,
    ⟨none, none, .st1 (.t 9) (.t 8)⟩])
 (.seq (.reg [
    ⟨none, some 10, .ldn 2 (.t 3)⟩,
    ⟨none, none, .stn 2 (.t 2) (.t 10)⟩])
 (.ret)))))
theorem h_laws_toTurn : Has Try.prog n_laws_toTurn 11 c_laws_toTurn [.cl 2 2] := ⟨⟨Try.f95, _, Try.func95, rfl, rfl, by kernel_rfl, by kernel_rfl⟩⟩

def c_laws_eqCallS : SC :=
 .seq (.reg [
    ⟨none, some 4, .mv (.k (.c (.b false)))⟩])
 (.seq (.seq (.reg [
     ⟨none, some 6, .mv (.t 0)⟩,
     ⟨none, some 7, .len (.t 6)⟩,
     ⟨none, some 8, .mv (.t 1)⟩,
     ⟨none, some 9, .len (.t 8)⟩,
     ⟨none, some 10, .bin .neq (.t 7) (.t 9)⟩])
  (.cond (.t 10)
   (.seq (.reg [
       ⟨none, some 4, .mv (.k (.c (.b false)))⟩])
    (.ret))
   (.skip)))
 (.seq (.seq (.reg [
     ⟨none, some 5, .mv (.k (.c (.i 0)))⟩])
  (.block 0 (.loop (.seq (.seq (.reg [
        ⟨none, some 11, .mv (.t 5)⟩,
        ⟨none, some 12, .mv (.t 0)⟩,
        ⟨none, some 13, .len (.t 12)⟩,
        ⟨none, some 14, .bin .lss (.t 11) (.t 13)⟩])
     (.cond (.t 14)
      (.skip)
      (.exit 0)))
    (.seq (.block 1 (.seq (.regq [
         ⟨none, some 17, .mv (.t 0)⟩,
         ⟨none, some 18, .mv (.t 5)⟩,
         ⟨none, some 19, .idx 4 (.t 17) (.t 18)⟩,
         ⟨none, some 20, .ldn 4 (.t 19)⟩,
         ⟨none, some 21, .mv (.t 1)⟩,
         ⟨none, some 22, .mv (.t 5)⟩,
         ⟨none, some 23, .idx 4 (.t 21) (.t 22)⟩,
         ⟨none, some 24, .ldn 4 (.t 23)⟩,
         ⟨none, some 25, .call n_laws_eqCall [.t 20, .t 24]⟩,
         ⟨none, some 26, .not (.t 25)⟩])
      (.cond (.t 26)
       (.seq (.reg [
           ⟨none, some 4, .mv (.k (.c (.b false)))⟩])
        (.ret))
       (.skip))))
    (.reg [
      ⟨none, some 15, .mv (.t 5)⟩,
      ⟨none, some 16, .bin .add (.t 15) (.k (.c (.i 1)))⟩,
      ⟨none, some 5, .mv (.t 16)⟩]))))))
 (.seq (.reg [
    ⟨none, some 4, .mv (.k (.c (.b true)))⟩])
 (.ret))))
theorem h_laws_eqCallS : Has Try.prog n_laws_eqCallS 27 c_laws_eqCallS [.t 4] := ⟨⟨Try.f96, _, Try.func96, rfl, rfl, by kernel_rfl, by kernel_rfl⟩⟩

def c_spec_TimeTo : SC :=
 .seq (.reg [
    ⟨none, some 3, .box 3 (.t 0)⟩,
    ⟨none, some 4, .box 2 (.t 1)⟩,
    ⟨none, some 5, .box 3 (.t 2)⟩,
    ⟨none, some 6, .mv (.k (.c (.i 0)))⟩])
 (.seq (.seq (.reg [
     ⟨none, some 9, .ldn 3 (.t 3)⟩,
     ⟨none, some 10, .ldn 2 (.t 4)⟩,
     ⟨none, some 11, .call n_spec_MoverOk [.t 9, .t 10]⟩,
     ⟨none, some 12, .not (.t 11)⟩,
     ⟨none, some 13, .mv (.t 12)⟩,
     ⟨some (13, false), some 14, .ldn 3 (.t 5)⟩,
     ⟨some (13, false), some 15, .call n_spec_ReachOk [.t 14]⟩,
     ⟨some (13, false), some 16, .not (.t 15)⟩,
     ⟨none, some 17, .pick (.t 13) (.k (.c (.b true))) (.t 16)⟩])
  (.cond (.t 17)
   (.seq (.reg [
       ⟨none, some 6, .mv (.k (.c (.i (-1))))⟩])
    (.ret))
   (.skip)))
 (.seq (.reg [
    ⟨none, some 18, .fld 0 (.t 4)⟩,
    ⟨none, some 19, .ld1 (.t 18)⟩,
    ⟨none, some 20, .fld 2 (.t 3)⟩,
    ⟨none, some 21, .ld1 (.t 20)⟩,
    ⟨none, some 22, .bin .sub (.t 19) (.t 21)⟩,
    ⟨none, some 7, .mv (.t 22)⟩])
 (.seq (.seq (.reg [
     ⟨none, some 23, .fld 0 (.t 3)⟩,
     ⟨none, some 24, .fld 0 (.t 23)⟩,
     ⟨none, some 25, .ld1 (.t 24)⟩])
  (.cond (.t 25)
   (.reg [
      ⟨none, some 26, .fld 2 (.t 3)⟩,
      ⟨none, some 27, .ld1 (.t 26)⟩,
      ⟨none, some 7, .mv (.t 27)⟩])
   (.skip)))
 (.seq (.regq [
    ⟨none, some 28, .fld 0 (.t 3)⟩,
    ⟨none, some 29, .ldn 2 (.t 28)⟩,
    ⟨none, some 30, .ldn 2 (.t 4)⟩,
    ⟨none, some 31, .ldn 3 (.t 5)⟩,
    ⟨none, some 32, .call n_spec_DepthIn [.t 30, .t 31]⟩,
    ⟨none, some 33, .call n_spec_PaceOf [.t 29, .t 32]⟩,
    ⟨none, some 8, .mv (.t 33)⟩])
 (.seq (.seq (.reg [
     ⟨none, some 34, .mv (.t 7)⟩,
     ⟨none, some 35, .bin .eql (.t 34) (.k (.c (.i 0)))⟩])
  (.cond (.t 35)
   (.seq (.reg [
       ⟨none, some 6, .mv (.k (.c (.i 0)))⟩])
    (.ret))
   (.skip)))
 (.seq (.seq (.reg [
     ⟨none, some 36, .mv (.t 8)⟩,
     ⟨none, some 37, .bin .eql (.t 36) (.k (.c (.i 0)))⟩])
  (.cond (.t 37)
   (.seq (.reg [
       ⟨none, some 6, .mv (.k (.c (.i (-1))))⟩])
    (.ret))
   (.skip)))
 (.seq (.reg [
    ⟨none, some 38, .mv (.t 7)⟩,
    ⟨none, some 39, .mv (.t 8)⟩,
    ⟨none, some 40, .bin .add (.t 38) (.t 39)⟩,
    ⟨none, some 41, .bin .sub (.t 40) (.k (.c (.i 1)))⟩,
    ⟨none, some 42, .mv (.t 8)⟩,
    ⟨none, some 43, .bin .quo (.t 41) (.t 42)⟩,
    ⟨none, some 6, .mv (.t 43)⟩])
 (.ret))))))))
theorem h_spec_TimeTo : Has Try.prog n_spec_TimeTo 44 c_spec_TimeTo [.t 6] := ⟨⟨Try.f97, _, Try.func97, rfl, rfl, by kernel_rfl, by kernel_rfl⟩⟩





def c_laws_markCallS : SC :=
 .seq (.reg [
    ⟨none, some 4, .mv (.k (.c (.i 0)))⟩])
 (.seq (.seq (.reg [
     ⟨none, some 5, .mv (.k (.c (.i 0)))⟩])
  (.block 0 (.loop (.seq (.seq (.reg [
        ⟨none, some 6, .mv (.t 5)⟩,
        ⟨none, some 7, .mv (.t 0)⟩,
        ⟨none, some 8, .len (.t 7)⟩,
        ⟨none, some 9, .bin .lss (.t 6) (.t 8)⟩])
     (.cond (.t 9)
      (.skip)
      (.exit 0)))
    (.seq (.block 1 (.seq (.reg [
         ⟨none, some 12, .mv (.t 0)⟩,
         ⟨none, some 13, .mv (.t 5)⟩,
         ⟨none, some 14, .mv (.t 1)⟩,
         ⟨none, some 15, .bin .rem (.t 14) (.k (.c (.i 3)))⟩,
         ⟨none, some 16, .bin .eql (.t 15) (.k (.c (.i 0)))⟩,
         ⟨none, some 17, .idx 4 (.t 12) (.t 13)⟩,
         ⟨none, some 18, .fld 0 (.t 17)⟩,
         ⟨none, some 19, .fld 0 (.t 18)⟩,
         ⟨none, none, .st1 (.t 19) (.t 16)⟩])
      (.seq (.reg [
         ⟨none, some 20, .mv (.t 1)⟩,
         ⟨none, some 21, .bin .add (.t 20) (.k (.c (.i 1)))⟩,
         ⟨none, some 1, .mv (.t 21)⟩])
      (.seq (.reg [
         ⟨none, some 22, .mv (.t 0)⟩,
         ⟨none, some 23, .mv (.t 5)⟩,
         ⟨none, some 24, .idx 4 (.t 22) (.t 23)⟩,
         ⟨none, some 25, .fld 0 (.t 24)⟩,
         ⟨none, some 26, .fld 1 (.t 25)⟩,
         ⟨none, some 27, .ld1 (.t 26)⟩,
         ⟨none, some 28, .mv (.t 1)⟩,
         ⟨none, some 29, .call n_laws_markBoatSS [.t 27, .t 28]⟩,
         ⟨none, some 1, .mv (.t 29)⟩])
      (.seq (.reg [
         ⟨none, some 30, .mv (.t 0)⟩,
         ⟨none, some 31, .mv (.t 5)⟩,
         ⟨none, some 32, .mv (.t 1)⟩,
         ⟨none, some 33, .idx 4 (.t 30) (.t 31)⟩,
         ⟨none, some 34, .fld 2 (.t 33)⟩,
         ⟨none, none, .st1 (.t 34) (.t 32)⟩])
      (.seq (.reg [
         ⟨none, some 35, .mv (.t 1)⟩,
         ⟨none, some 36, .bin .add (.t 35) (.k (.c (.i 1)))⟩,
         ⟨none, some 1, .mv (.t 36)⟩])
      (.seq (.reg [
         ⟨none, some 37, .mv (.t 0)⟩,
         ⟨none, some 38, .mv (.t 5)⟩,
         ⟨none, some 39, .mv (.t 1)⟩,
         ⟨none, some 40, .idx 4 (.t 37) (.t 38)⟩,
         ⟨none, some 41, .fld 3 (.t 40)⟩,
         ⟨none, none, .st1 (.t 41) (.t 39)⟩])
      (.reg [
        ⟨none, some 42, .mv (.t 1)⟩,
        ⟨none, some 43, .bin .add (.t 42) (.k (.c (.i 1)))⟩,
        ⟨none, some 1, .mv (.t 43)⟩]))))))))
    (.reg [
      ⟨none, some 10, .mv (.t 5)⟩,
      ⟨none, some 11, .bin .add (.t 10) (.k (.c (.i 1)))⟩,
      ⟨none, some 5, .mv (.t 11)⟩]))))))
 (.seq (.reg [
    ⟨none, some 44, .mv (.t 1)⟩,
    ⟨none, some 4, .mv (.t 44)⟩])
 (.ret)))
theorem h_laws_markCallS : Has Try.prog n_laws_markCallS 45 c_laws_markCallS [.t 4] := ⟨⟨Try.f100, _, Try.func100, rfl, rfl, by kernel_rfl, by kernel_rfl⟩⟩

def c_laws_szWork : SC :=
 .seq (.reg [
    ⟨none, some 2, .box 22 (.t 0)⟩,
    ⟨none, some 4, .mv (.k (.c (.i 0)))⟩])
 (.seq (.reg [
    ⟨none, some 5, .fld 0 (.t 2)⟩,
    ⟨none, some 6, .ldn 10 (.t 5)⟩,
    ⟨none, some 7, .mv (.t 1)⟩,
    ⟨none, some 8, .call n_laws_szLock [.t 6, .t 7]⟩,
    ⟨none, some 1, .mv (.t 8)⟩])
 (.seq (.seq (.reg [
     ⟨none, some 9, .mv (.t 1)⟩,
     ⟨none, some 10, .bin .lss (.t 9) (.k (.c (.i 0)))⟩])
  (.cond (.t 10)
   (.seq (.reg [
       ⟨none, some 4, .mv (.k (.c (.i (-1))))⟩])
    (.ret))
   (.skip)))
 (.seq (.reg [
    ⟨none, some 11, .fld 18 (.t 2)⟩,
    ⟨none, some 12, .ld1 (.t 11)⟩,
    ⟨none, some 13, .mv (.t 1)⟩,
    ⟨none, some 14, .call n_laws_szPauseS [.t 12, .t 13]⟩,
    ⟨none, some 1, .mv (.t 14)⟩])
 (.seq (.seq (.reg [
     ⟨none, some 15, .mv (.t 1)⟩,
     ⟨none, some 16, .bin .lss (.t 15) (.k (.c (.i 0)))⟩])
  (.cond (.t 16)
   (.seq (.reg [
       ⟨none, some 4, .mv (.k (.c (.i (-1))))⟩])
    (.ret))
   (.skip)))
 (.seq (.reg [
    ⟨none, some 17, .fld 21 (.t 2)⟩,
    ⟨none, some 18, .ld1 (.t 17)⟩,
    ⟨none, some 19, .mv (.t 1)⟩,
    ⟨none, some 20, .call n_laws_szCallS [.t 18, .t 19]⟩,
    ⟨none, some 1, .mv (.t 20)⟩])
 (.seq (.seq (.reg [
     ⟨none, some 21, .mv (.t 1)⟩,
     ⟨none, some 22, .bin .lss (.t 21) (.k (.c (.i 0)))⟩])
  (.cond (.t 22)
   (.seq (.reg [
       ⟨none, some 4, .mv (.k (.c (.i (-1))))⟩])
    (.ret))
   (.skip)))
 (.seq (.reg [
    ⟨none, some 23, .mv (.t 1)⟩,
    ⟨none, some 4, .mv (.t 23)⟩])
 (.ret))))))))
theorem h_laws_szWork : Has Try.prog n_laws_szWork 24 c_laws_szWork [.t 4] := ⟨⟨Try.f101, _, Try.func101, rfl, rfl, by kernel_rfl, by kernel_rfl⟩⟩

end Go.Proofs.Ytenfgllkjgfjpaa
