/- Functions of this seat in the small language, written by a program (GenCode) out of the translation; each is held against the translation by the kernel. -/
import Derived.Test.YtfmgadchjiplmaaMNames
import Derived.KernelRfl
set_option linter.all false
namespace Go.Proofs.Ytfmgadchjiplmaa
open Go.RowKit

def c_laws_FnExactMoverOk : SC :=
 .seq (.reg [
    ⟨none, some 2, .box 3 (.t 0)⟩,
    ⟨none, some 3, .box 2 (.t 1)⟩,
    ⟨none, some 4, .mv (.k (.c (.b false)))⟩])
 (.seq (.reg [
    ⟨none, some 5, .mv (.k (.c (.i 1048576)))⟩])
 (.seq (.reg [
    ⟨none, some 9, .ldn 3 (.t 2)⟩,
    ⟨none, some 10, .mv (.t 5)⟩,
    ⟨none, some 11, .call n_laws_szMover [.t 9, .t 10]⟩,
    ⟨none, some 5, .mv (.t 11)⟩])
 (.seq (.seq (.reg [
     ⟨none, some 12, .mv (.t 5)⟩,
     ⟨none, some 13, .bin .lss (.t 12) (.k (.c (.i 0)))⟩])
  (.cond (.t 13)
   (.seq (.reg [
       ⟨none, some 4, .mv (.k (.c (.b true)))⟩])
    (.ret))
   (.skip)))
 (.seq (.regq [
    ⟨none, some 14, .ldn 3 (.t 2)⟩,
    ⟨none, some 15, .call n_laws_toMover [.t 14]⟩,
    ⟨none, some 16, .ldn 2 (.t 3)⟩,
    ⟨none, some 17, .call n_laws_toWay [.t 16]⟩,
    ⟨none, some 18, .call n_spec_MoverOk [.t 15, .t 17]⟩,
    ⟨none, some 6, .mv (.t 18)⟩])
 (.seq (.reg [
    ⟨none, some 19, .ldn 3 (.t 2)⟩,
    ⟨none, some 20, .call n_laws_toMover [.t 19]⟩,
    ⟨none, some 7, .alloc [.c (.b false), .nil 1, .c (.i 0)]⟩,
    ⟨none, none, .stn 3 (.t 7) (.t 20)⟩])
 (.seq (.regq [
    ⟨none, some 21, .ldn 3 (.t 7)⟩,
    ⟨none, some 22, .ldn 2 (.t 3)⟩,
    ⟨none, some 23, .call n_laws_toWay [.t 22]⟩,
    ⟨none, some 24, .call n_impl_MoverOk [.t 21, .t 23]⟩,
    ⟨none, some 8, .mv (.t 24)⟩])
 (.seq (.seq (.reg [
     ⟨none, some 25, .mv (.t 8)⟩,
     ⟨none, some 26, .mv (.t 6)⟩,
     ⟨none, some 27, .beq true (.t 25) (.t 26)⟩])
  (.cond (.t 27)
   (.seq (.reg [
       ⟨none, some 4, .mv (.k (.c (.b false)))⟩])
    (.ret))
   (.skip)))
 (.seq (.seq (.regq [
     ⟨none, some 28, .ldn 3 (.t 7)⟩,
     ⟨none, some 29, .ldn 3 (.t 2)⟩,
     ⟨none, some 30, .call n_laws_toMover [.t 29]⟩,
     ⟨none, some 31, .call n_laws_eqMover [.t 28, .t 30]⟩,
     ⟨none, some 32, .not (.t 31)⟩])
  (.cond (.t 32)
   (.seq (.reg [
       ⟨none, some 4, .mv (.k (.c (.b false)))⟩])
    (.ret))
   (.skip)))
 (.seq (.reg [
    ⟨none, some 4, .mv (.k (.c (.b true)))⟩])
 (.ret))))))))))
theorem h_laws_FnExactMoverOk : Has Try.prog n_laws_FnExactMoverOk 33 c_laws_FnExactMoverOk [.t 4] := ⟨by decide, Try.f12, _, Try.func12, rfl, rfl, by kernel_rfl, by kernel_rfl⟩

def c_laws_szMover : SC :=
 .seq (.reg [
    ⟨none, some 2, .box 3 (.t 0)⟩,
    ⟨none, some 4, .mv (.k (.c (.i 0)))⟩])
 (.seq (.reg [
    ⟨none, some 5, .fld 0 (.t 2)⟩,
    ⟨none, some 6, .ldn 2 (.t 5)⟩,
    ⟨none, some 7, .mv (.t 1)⟩,
    ⟨none, some 8, .call n_laws_szTrain [.t 6, .t 7]⟩,
    ⟨none, some 1, .mv (.t 8)⟩])
 (.seq (.seq (.reg [
     ⟨none, some 9, .mv (.t 1)⟩,
     ⟨none, some 10, .bin .lss (.t 9) (.k (.c (.i 0)))⟩])
  (.cond (.t 10)
   (.seq (.reg [
       ⟨none, some 4, .mv (.k (.c (.i (-1))))⟩])
    (.ret))
   (.skip)))
 (.seq (.reg [
    ⟨none, some 11, .mv (.t 1)⟩,
    ⟨none, some 4, .mv (.t 11)⟩])
 (.ret))))
theorem h_laws_szMover : Has Try.prog n_laws_szMover 12 c_laws_szMover [.t 4] := ⟨by decide, Try.f61, _, Try.func61, rfl, rfl, by kernel_rfl, by kernel_rfl⟩

def c_spec_MoverOk : SC :=
 .seq (.reg [
    ⟨none, some 2, .box 3 (.t 0)⟩,
    ⟨none, some 3, .box 2 (.t 1)⟩,
    ⟨none, some 4, .mv (.k (.c (.b false)))⟩])
 (.seq (.reg [
    ⟨none, some 5, .ldn 2 (.t 3)⟩,
    ⟨none, some 6, .call n_spec_WayOk [.t 5]⟩,
    ⟨none, some 7, .mv (.t 6)⟩,
    ⟨some (7, true), some 8, .fld 0 (.t 2)⟩,
    ⟨some (7, true), some 9, .ldn 2 (.t 8)⟩,
    ⟨some (7, true), some 10, .call n_spec_TrainOk [.t 9]⟩,
    ⟨none, some 11, .pick (.t 7) (.t 10) (.k (.c (.b false)))⟩,
    ⟨none, some 12, .mv (.t 11)⟩,
    ⟨some (12, true), some 13, .fld 2 (.t 2)⟩,
    ⟨some (12, true), some 14, .ld1 (.t 13)⟩,
    ⟨some (12, true), some 15, .fld 0 (.t 3)⟩,
    ⟨some (12, true), some 16, .ld1 (.t 15)⟩,
    ⟨some (12, true), some 17, .call n_spec_l01In [.t 14, .k (.c (.i 0)), .t 16]⟩,
    ⟨none, some 18, .pick (.t 12) (.t 17) (.k (.c (.b false)))⟩,
    ⟨none, some 4, .mv (.t 18)⟩])
 (.ret))
theorem h_spec_MoverOk : Has Try.prog n_spec_MoverOk 19 c_spec_MoverOk [.t 4] := ⟨by decide, Try.f62, _, Try.func62, rfl, rfl, by kernel_rfl, by kernel_rfl⟩

def c_laws_toMover : SC :=
 .seq (.reg [
    ⟨none, some 1, .box 3 (.t 0)⟩,
    ⟨none, some 2, .alloc [.c (.b false), .nil 1, .c (.i 0)]⟩])
 (.seq (.reg [
    ⟨none, some 3, .alloc [.c (.b false), .nil 1, .c (.i 0)]⟩])
 (.seq (.reg [
    ⟨none, some 4, .fld 0 (.t 1)⟩,
    ⟨none, some 5, .ldn 2 (.t 4)⟩,
    ⟨none, some 6, .call n_laws_toTrain [.t 5]⟩,
    ⟨none, some 7, .fld 0 (.t 3)⟩,
    ⟨none, none, .stn 2 (.t 7) (.t 6)⟩])
 (.seq (.reg [
    ⟨none, some 8, .fld 2 (.t 1)⟩,
    ⟨none, some 9, .ld1 (.t 8)⟩,
    ⟨none, some 10, .fld 2 (.t 3)⟩,
    ⟨none, none, .st1 (.t 10) (.t 9)⟩])
 (.seq (.reg [
    ⟨none, some 11, .ldn 3 (.t 3)⟩,
    ⟨none, none, .stn 3 (.t 2) (.t 11)⟩])
 (.ret)))))
theorem h_laws_toMover : Has Try.prog n_laws_toMover 12 c_laws_toMover [.cl 2 3] := ⟨by decide, Try.f63, _, Try.func63, rfl, rfl, by kernel_rfl, by kernel_rfl⟩

def c_impl_MoverOk : SC :=
 .seq (.reg [
    ⟨none, some 2, .box 3 (.t 0)⟩,
    ⟨none, some 3, .box 2 (.t 1)⟩,
    ⟨none, some 4, .mv (.k (.c (.b false)))⟩])
 (.seq (.reg [
    ⟨none, some 5, .ldn 2 (.t 3)⟩,
    ⟨none, some 6, .call n_impl_WayOk [.t 5]⟩,
    ⟨none, some 7, .mv (.t 6)⟩,
    ⟨some (7, true), some 8, .fld 0 (.t 2)⟩,
    ⟨some (7, true), some 9, .ldn 2 (.t 8)⟩,
    ⟨some (7, true), some 10, .call n_impl_TrainOk [.t 9]⟩,
    ⟨none, some 11, .pick (.t 7) (.t 10) (.k (.c (.b false)))⟩,
    ⟨none, some 12, .mv (.t 11)⟩,
    ⟨some (12, true), some 13, .fld 2 (.t 2)⟩,
    ⟨some (12, true), some 14, .ld1 (.t 13)⟩,
    ⟨some (12, true), some 15, .fld 0 (.t 3)⟩,
    ⟨some (12, true), some 16, .ld1 (.t 15)⟩,
    ⟨some (12, true), some 17, .call n_impl_inRange [.t 14, .k (.c (.i 0)), .t 16]⟩,
    ⟨none, some 18, .pick (.t 12) (.t 17) (.k (.c (.b false)))⟩,
    ⟨none, some 4, .mv (.t 18)⟩])
 (.ret))
theorem h_impl_MoverOk : Has Try.prog n_impl_MoverOk 19 c_impl_MoverOk [.t 4] := ⟨by decide, Try.f64, _, Try.func64, rfl, rfl, by kernel_rfl, by kernel_rfl⟩

def c_laws_eqMover : SC :=
 .seq (.reg [
    ⟨none, some 2, .box 3 (.t 0)⟩,
    ⟨none, some 3, .box 3 (.t 1)⟩,
    ⟨none, some 4, .mv (.k (.c (.b false)))⟩])
 (.seq (.seq (.reg [
     ⟨none, some 5, .fld 0 (.t 2)⟩,
     ⟨none, some 6, .ldn 2 (.t 5)⟩,
     ⟨none, some 7, .fld 0 (.t 3)⟩,
     ⟨none, some 8, .ldn 2 (.t 7)⟩,
     ⟨none, some 9, .call n_laws_eqTrain [.t 6, .t 8]⟩,
     ⟨none, some 10, .not (.t 9)⟩])
  (.cond (.t 10)
   (.seq (.reg [
       ⟨none, some 4, .mv (.k (.c (.b false)))⟩])
    (.ret))
   (.skip)))
 (.seq (.seq (.reg [
     ⟨none, some 11, .fld 2 (.t 2)⟩,
     ⟨none, some 12, .ld1 (.t 11)⟩,
     ⟨none, some 13, .fld 2 (.t 3)⟩,
     ⟨none, some 14, .ld1 (.t 13)⟩,
     ⟨none, some 15, .bin .neq (.t 12) (.t 14)⟩])
  (.cond (.t 15)
   (.seq (.reg [
       ⟨none, some 4, .mv (.k (.c (.b false)))⟩])
    (.ret))
   (.skip)))
 (.seq (.reg [
    ⟨none, some 4, .mv (.k (.c (.b true)))⟩])
 (.ret))))
theorem h_laws_eqMover : Has Try.prog n_laws_eqMover 16 c_laws_eqMover [.t 4] := ⟨by decide, Try.f65, _, Try.func65, rfl, rfl, by kernel_rfl, by kernel_rfl⟩

def c_laws_szTrain : SC :=
 .seq (.reg [
    ⟨none, some 2, .box 2 (.t 0)⟩,
    ⟨none, some 4, .mv (.k (.c (.i 0)))⟩])
 (.seq (.reg [
    ⟨none, some 5, .fld 1 (.t 2)⟩,
    ⟨none, some 6, .ld1 (.t 5)⟩,
    ⟨none, some 7, .mv (.t 1)⟩,
    ⟨none, some 8, .call n_laws_szBoatSS [.t 6, .t 7]⟩,
    ⟨none, some 1, .mv (.t 8)⟩])
 (.seq (.seq (.reg [
     ⟨none, some 9, .mv (.t 1)⟩,
     ⟨none, some 10, .bin .lss (.t 9) (.k (.c (.i 0)))⟩])
  (.cond (.t 10)
   (.seq (.reg [
       ⟨none, some 4, .mv (.k (.c (.i (-1))))⟩])
    (.ret))
   (.skip)))
 (.seq (.reg [
    ⟨none, some 11, .mv (.t 1)⟩,
    ⟨none, some 4, .mv (.t 11)⟩])
 (.ret))))
theorem h_laws_szTrain : Has Try.prog n_laws_szTrain 12 c_laws_szTrain [.t 4] := ⟨by decide, Try.f68, _, Try.func68, rfl, rfl, by kernel_rfl, by kernel_rfl⟩

def c_laws_toTrain : SC :=
 .seq (.reg [
    ⟨none, some 1, .box 2 (.t 0)⟩,
    ⟨none, some 2, .alloc [.c (.b false), .nil 1]⟩])
 (.seq (.reg [
    ⟨none, some 3, .alloc [.c (.b false), .nil 1]⟩])
 (.seq (.reg [
    ⟨none, some 4, .fld 0 (.t 1)⟩,
    ⟨none, some 5, .ld1 (.t 4)⟩,
    ⟨none, some 6, .fld 0 (.t 3)⟩,
    ⟨none, none, .st1 (.t 6) (.t 5)⟩])
 (.seq (.reg [
    ⟨none, some 7, .fld 1 (.t 1)⟩,
    ⟨none, some 8, .ld1 (.t 7)⟩,
    ⟨none, some 9, .call n_laws_toBoatSS [.t 8]⟩,
    ⟨none, some 10, .fld 1 (.t 3)⟩,
    ⟨none, none, .st1 (.t 10) (.t 9)⟩])
 (.seq (.reg [
    ⟨none, some 11, .ldn 2 (.t 3)⟩,
    ⟨none, none, .stn 2 (.t 2) (.t 11)⟩])
 (.ret)))))
theorem h_laws_toTrain : Has Try.prog n_laws_toTrain 12 c_laws_toTrain [.cl 2 2] := ⟨by decide, Try.f70, _, Try.func70, rfl, rfl, by kernel_rfl, by kernel_rfl⟩

def c_laws_eqTrain : SC :=
 .seq (.reg [
    ⟨none, some 2, .box 2 (.t 0)⟩,
    ⟨none, some 3, .box 2 (.t 1)⟩,
    ⟨none, some 4, .mv (.k (.c (.b false)))⟩])
 (.seq (.seq (.reg [
     ⟨none, some 5, .fld 0 (.t 2)⟩,
     ⟨none, some 6, .ld1 (.t 5)⟩,
     ⟨none, some 7, .fld 0 (.t 3)⟩,
     ⟨none, some 8, .ld1 (.t 7)⟩,
     ⟨none, some 9, .beq true (.t 6) (.t 8)⟩])
  (.cond (.t 9)
   (.seq (.reg [
       ⟨none, some 4, .mv (.k (.c (.b false)))⟩])
    (.ret))
   (.skip)))
 (.seq (.seq (.reg [
     ⟨none, some 10, .fld 1 (.t 2)⟩,
     ⟨none, some 11, .ld1 (.t 10)⟩,
     ⟨none, some 12, .fld 1 (.t 3)⟩,
     ⟨none, some 13, .ld1 (.t 12)⟩,
     ⟨none, some 14, .call n_laws_eqBoatSS [.t 11, .t 13]⟩,
     ⟨none, some 15, .not (.t 14)⟩])
  (.cond (.t 15)
   (.seq (.reg [
       ⟨none, some 4, .mv (.k (.c (.b false)))⟩])
    (.ret))
   (.skip)))
 (.seq (.reg [
    ⟨none, some 4, .mv (.k (.c (.b true)))⟩])
 (.ret))))
theorem h_laws_eqTrain : Has Try.prog n_laws_eqTrain 16 c_laws_eqTrain [.t 4] := ⟨by decide, Try.f72, _, Try.func72, rfl, rfl, by kernel_rfl, by kernel_rfl⟩

def c_spec_TrainOk : SC :=
 .seq (.reg [
    ⟨none, some 1, .box 2 (.t 0)⟩,
    ⟨none, some 2, .mv (.k (.c (.b false)))⟩])
 (.seq (.reg [
    ⟨none, some 7, .ldn 2 (.t 1)⟩,
    ⟨none, some 8, .call n_spec_l04Boats [.t 7]⟩,
    ⟨none, some 3, .mv (.t 8)⟩])
 (.seq (.seq (.reg [
     ⟨none, some 4, .mv (.k (.c (.i 0)))⟩])
  (.block 0 (.loop (.seq (.seq (.reg [
        ⟨none, some 9, .mv (.t 4)⟩,
        ⟨none, some 10, .fld 1 (.t 1)⟩,
        ⟨none, some 11, .ld1 (.t 10)⟩,
        ⟨none, some 12, .len (.t 11)⟩,
        ⟨none, some 13, .bin .lss (.t 9) (.t 12)⟩])
     (.cond (.t 13)
      (.skip)
      (.exit 0)))
    (.seq (.block 1 (.seq (.reg [
         ⟨none, some 16, .fld 1 (.t 1)⟩,
         ⟨none, some 17, .ld1 (.t 16)⟩,
         ⟨none, some 18, .mv (.t 4)⟩,
         ⟨none, some 19, .idx 1 (.t 17) (.t 18)⟩,
         ⟨none, some 20, .ld1 (.t 19)⟩,
         ⟨none, some 21, .len (.t 20)⟩,
         ⟨none, some 22, .bin .eql (.t 21) (.k (.c (.i 0)))⟩])
      (.cond (.t 22)
       (.seq (.reg [
           ⟨none, some 2, .mv (.k (.c (.b false)))⟩])
        (.ret))
       (.skip))))
    (.reg [
      ⟨none, some 14, .mv (.t 4)⟩,
      ⟨none, some 15, .bin .add (.t 14) (.k (.c (.i 1)))⟩,
      ⟨none, some 4, .mv (.t 15)⟩]))))))
 (.seq (.seq (.reg [
     ⟨none, some 5, .mv (.k (.c (.i 0)))⟩])
  (.block 2 (.loop (.seq (.seq (.reg [
        ⟨none, some 23, .mv (.t 5)⟩,
        ⟨none, some 24, .mv (.t 3)⟩,
        ⟨none, some 25, .len (.t 24)⟩,
        ⟨none, some 26, .bin .lss (.t 23) (.t 25)⟩,
        ⟨none, some 27, .mv (.t 26)⟩,
        ⟨some (27, true), some 28, .mv (.t 3)⟩,
        ⟨some (27, true), some 29, .len (.t 28)⟩,
        ⟨some (27, true), some 30, .bin .leq (.t 29) (.k (.c (.i 6)))⟩,
        ⟨none, some 31, .pick (.t 27) (.t 30) (.k (.c (.b false)))⟩])
     (.cond (.t 31)
      (.skip)
      (.exit 2)))
    (.seq (.block 3 (.seq (.seq (.reg [
          ⟨none, some 34, .mv (.t 3)⟩,
          ⟨none, some 35, .mv (.t 5)⟩,
          ⟨none, some 36, .idx 6 (.t 34) (.t 35)⟩,
          ⟨none, some 37, .ldn 6 (.t 36)⟩,
          ⟨none, some 38, .call n_spec_BoatOk [.t 37]⟩,
          ⟨none, some 39, .not (.t 38)⟩])
       (.cond (.t 39)
        (.seq (.reg [
            ⟨none, some 2, .mv (.k (.c (.b false)))⟩])
         (.ret))
        (.skip)))
      (.seq (.reg [
         ⟨none, some 6, .mv (.k (.c (.i 0)))⟩])
      (.block 4 (.loop (.seq (.seq (.reg [
            ⟨none, some 40, .mv (.t 6)⟩,
            ⟨none, some 41, .mv (.t 5)⟩,
            ⟨none, some 42, .bin .lss (.t 40) (.t 41)⟩])
         (.cond (.t 42)
          (.skip)
          (.exit 4)))
        (.seq (.block 5 (.seq (.regq [
             ⟨none, some 45, .mv (.t 3)⟩,
             ⟨none, some 46, .mv (.t 6)⟩,
             ⟨none, some 47, .idx 6 (.t 45) (.t 46)⟩,
             ⟨none, some 48, .fld 0 (.t 47)⟩,
             ⟨none, some 49, .ld1 (.t 48)⟩,
             ⟨none, some 50, .mv (.t 3)⟩,
             ⟨none, some 51, .mv (.t 5)⟩,
             ⟨none, some 52, .idx 6 (.t 50) (.t 51)⟩,
             ⟨none, some 53, .fld 0 (.t 52)⟩,
             ⟨none, some 54, .ld1 (.t 53)⟩,
             ⟨none, some 55, .bin .eql (.t 49) (.t 54)⟩])
          (.cond (.t 55)
           (.seq (.reg [
               ⟨none, some 2, .mv (.k (.c (.b false)))⟩])
            (.ret))
           (.skip))))
        (.reg [
          ⟨none, some 43, .mv (.t 6)⟩,
          ⟨none, some 44, .bin .add (.t 43) (.k (.c (.i 1)))⟩,
          ⟨none, some 6, .mv (.t 44)⟩]))))))))
    (.reg [
      ⟨none, some 32, .mv (.t 5)⟩,
      ⟨none, some 33, .bin .add (.t 32) (.k (.c (.i 1)))⟩,
      ⟨none, some 5, .mv (.t 33)⟩]))))))
 (.seq (.reg [
    ⟨none, some 56, .mv (.t 3)⟩,
    ⟨none, some 57, .len (.t 56)⟩,
    ⟨none, some 58, .call n_spec_l01In [.t 57, .k (.c (.i 1)), .k (.c (.i 6))]⟩,
    ⟨none, some 2, .mv (.t 58)⟩])
 (.ret)))))
theorem h_spec_TrainOk : Has Try.prog n_spec_TrainOk 59 c_spec_TrainOk [.t 2] := ⟨by decide, Try.f130, _, Try.func130, rfl, rfl, by kernel_rfl, by kernel_rfl⟩

def c_impl_TrainOk : SC :=
 .seq (.reg [
    ⟨none, some 1, .box 2 (.t 0)⟩,
    ⟨none, some 2, .mv (.k (.c (.b false)))⟩])
 (.seq (.seq (.reg [
     ⟨none, some 9, .fld 1 (.t 1)⟩,
     ⟨none, some 10, .ld1 (.t 9)⟩,
     ⟨none, some 11, .len (.t 10)⟩,
     ⟨none, some 12, .bin .eql (.t 11) (.k (.c (.i 0)))⟩,
     ⟨none, some 13, .mv (.t 12)⟩,
     ⟨some (13, false), some 14, .fld 1 (.t 1)⟩,
     ⟨some (13, false), some 15, .ld1 (.t 14)⟩,
     ⟨some (13, false), some 16, .len (.t 15)⟩,
     ⟨some (13, false), some 17, .bin .gtr (.t 16) (.k (.c (.i 6)))⟩,
     ⟨none, some 18, .pick (.t 13) (.k (.c (.b true))) (.t 17)⟩])
  (.cond (.t 18)
   (.seq (.reg [
       ⟨none, some 2, .mv (.k (.c (.b false)))⟩])
    (.ret))
   (.skip)))
 (.seq (.reg [
    ⟨none, some 3, .alloca 1 6 [.i 0]⟩])
 (.seq (.reg [
    ⟨none, some 4, .mv (.k (.c (.i 0)))⟩])
 (.seq (.seq (.reg [
     ⟨none, some 19, .fld 1 (.t 1)⟩,
     ⟨none, some 20, .ld1 (.t 19)⟩,
     ⟨none, some 21, .len (.t 20)⟩,
     ⟨none, some 22, .mv (.k (.c (.i 0)))⟩])
  (.block 0 (.loop (.seq (.reg [
       ⟨none, some 23, .bin .lss (.t 22) (.t 21)⟩])
    (.seq (.cond (.t 23)
      (.skip)
      (.exit 0))
    (.seq (.block 1 (.seq (.reg [
         ⟨none, some 24, .idx 1 (.t 20) (.t 22)⟩,
         ⟨none, some 25, .ld1 (.t 24)⟩,
         ⟨none, some 6, .mv (.t 25)⟩])
      (.seq (.seq (.reg [
          ⟨none, some 26, .mv (.t 6)⟩,
          ⟨none, some 27, .len (.t 26)⟩,
          ⟨none, some 28, .bin .eql (.t 27) (.k (.c (.i 0)))⟩,
          ⟨none, some 29, .mv (.t 28)⟩,
          ⟨some (29, false), some 30, .mv (.t 4)⟩,
          ⟨some (29, false), some 31, .mv (.t 6)⟩,
          ⟨some (29, false), some 32, .len (.t 31)⟩,
          ⟨some (29, false), some 33, .bin .add (.t 30) (.t 32)⟩,
          ⟨some (29, false), some 34, .bin .gtr (.t 33) (.k (.c (.i 6)))⟩,
          ⟨none, some 35, .pick (.t 29) (.k (.c (.b true))) (.t 34)⟩])
       (.cond (.t 35)
        (.seq (.reg [
            ⟨none, some 2, .mv (.k (.c (.b false)))⟩])
         (.ret))
        (.skip)))
      (.seq (.reg [
         ⟨none, some 36, .mv (.t 6)⟩,
         ⟨none, some 37, .len (.t 36)⟩,
         ⟨none, some 38, .mv (.k (.c (.i 0)))⟩])
      (.block 2 (.loop (.seq (.reg [
           ⟨none, some 39, .bin .lss (.t 38) (.t 37)⟩])
        (.seq (.cond (.t 39)
          (.skip)
          (.exit 2))
        (.seq (.block 3 (.seq (.reg [
             ⟨none, some 40, .idx 6 (.t 36) (.t 38)⟩,
             ⟨none, some 41, .ldn 6 (.t 40)⟩,
             ⟨none, some 8, .alloc [.c (.i 0), .c (.i 0), .c (.i 0), .c (.i 0), .c (.i 0), .c (.i 0)]⟩,
             ⟨none, none, .stn 6 (.t 8) (.t 41)⟩])
          (.seq (.seq (.regq [
              ⟨none, some 42, .ldn 6 (.t 8)⟩,
              ⟨none, some 43, .call n_impl_BoatOk [.t 42]⟩,
              ⟨none, some 44, .not (.t 43)⟩,
              ⟨none, some 45, .mv (.t 44)⟩,
              ⟨some (45, false), some 46, .mv (.t 4)⟩,
              ⟨some (45, false), some 47, .sla 1 6 (.t 3) (.t 46)⟩,
              ⟨some (45, false), some 48, .fld 0 (.t 8)⟩,
              ⟨some (45, false), some 49, .ld1 (.t 48)⟩,
              ⟨some (45, false), some 50, .call n_slices_Contains___int_int_ [.t 47, .t 49]⟩,
              ⟨none, some 51, .pick (.t 45) (.k (.c (.b true))) (.t 50)⟩])
           (.cond (.t 51)
            (.seq (.reg [
                ⟨none, some 2, .mv (.k (.c (.b false)))⟩])
             (.ret))
            (.skip)))
          (.seq (.reg [
             ⟨none, some 52, .mv (.t 4)⟩,
             ⟨none, some 53, .fld 0 (.t 8)⟩,
             ⟨none, some 54, .ld1 (.t 53)⟩,
             ⟨none, some 55, .ida 1 6 (.t 3) (.t 52)⟩,
             ⟨none, none, .st1 (.t 55) (.t 54)⟩])
          (.reg [
            ⟨none, some 56, .mv (.t 4)⟩,
            ⟨none, some 57, .bin .add (.t 56) (.k (.c (.i 1)))⟩,
            ⟨none, some 4, .mv (.t 57)⟩])))))
        (.reg [
          ⟨none, some 58, .bin .add (.t 38) (.k (.c (.i 1)))⟩,
          ⟨none, some 38, .mv (.t 58)⟩]))))))))))
    (.reg [
      ⟨none, some 59, .bin .add (.t 22) (.k (.c (.i 1)))⟩,
      ⟨none, some 22, .mv (.t 59)⟩])))))))
 (.seq (.reg [
    ⟨none, some 2, .mv (.k (.c (.b true)))⟩])
 (.ret))))))
theorem h_impl_TrainOk : Has Try.prog n_impl_TrainOk 60 c_impl_TrainOk [.t 2] := ⟨by decide, Try.f131, _, Try.func131, rfl, rfl, by kernel_rfl, by kernel_rfl⟩

def c_laws_szBoatSS : SC :=
 .seq (.reg [
    ⟨none, some 4, .mv (.k (.c (.i 0)))⟩])
 (.seq (.reg [
    ⟨none, some 6, .mv (.t 1)⟩,
    ⟨none, some 7, .mv (.t 0)⟩,
    ⟨none, some 8, .len (.t 7)⟩,
    ⟨none, some 9, .bin .sub (.t 6) (.t 8)⟩,
    ⟨none, some 1, .mv (.t 9)⟩])
 (.seq (.seq (.reg [
     ⟨none, some 10, .mv (.t 1)⟩,
     ⟨none, some 11, .bin .lss (.t 10) (.k (.c (.i 0)))⟩])
  (.cond (.t 11)
   (.seq (.reg [
       ⟨none, some 4, .mv (.k (.c (.i (-1))))⟩])
    (.ret))
   (.skip)))
 (.seq (.seq (.reg [
     ⟨none, some 5, .mv (.k (.c (.i 0)))⟩])
  (.block 0 (.loop (.seq (.seq (.reg [
        ⟨none, some 12, .mv (.t 5)⟩,
        ⟨none, some 13, .mv (.t 0)⟩,
        ⟨none, some 14, .len (.t 13)⟩,
        ⟨none, some 15, .bin .lss (.t 12) (.t 14)⟩])
     (.cond (.t 15)
      (.skip)
      (.exit 0)))
    (.seq (.block 1 (.seq (.reg [
         ⟨none, some 18, .mv (.t 0)⟩,
         ⟨none, some 19, .mv (.t 5)⟩,
         ⟨none, some 20, .idx 1 (.t 18) (.t 19)⟩,
         ⟨none, some 21, .ld1 (.t 20)⟩,
         ⟨none, some 22, .mv (.t 1)⟩,
         ⟨none, some 23, .call n_laws_szBoatS [.t 21, .t 22]⟩,
         ⟨none, some 1, .mv (.t 23)⟩])
      (.seq (.reg [
         ⟨none, some 24, .mv (.t 1)⟩,
         ⟨none, some 25, .bin .lss (.t 24) (.k (.c (.i 0)))⟩])
      (.cond (.t 25)
       (.seq (.reg [
           ⟨none, some 4, .mv (.k (.c (.i (-1))))⟩])
        (.ret))
       (.skip)))))
    (.reg [
      ⟨none, some 16, .mv (.t 5)⟩,
      ⟨none, some 17, .bin .add (.t 16) (.k (.c (.i 1)))⟩,
      ⟨none, some 5, .mv (.t 17)⟩]))))))
 (.seq (.reg [
    ⟨none, some 26, .mv (.t 1)⟩,
    ⟨none, some 4, .mv (.t 26)⟩])
 (.ret)))))
theorem h_laws_szBoatSS : Has Try.prog n_laws_szBoatSS 27 c_laws_szBoatSS [.t 4] := ⟨by decide, Try.f133, _, Try.func133, rfl, rfl, by kernel_rfl, by kernel_rfl⟩

def c_laws_toBoatSS : SC :=
 .seq (.reg [
    ⟨none, some 2, .mv (.k (.nil 1))⟩])
 (.seq (.reg [
    ⟨none, some 5, .mv (.t 0)⟩,
    ⟨none, some 6, .len (.t 5)⟩,
    ⟨none, some 7, .mks 1 24 [.sl 6 []] (.t 6) (.t 6)⟩,
    ⟨none, some 3, .mv (.t 7)⟩])
 (.seq (.seq (.reg [
     ⟨none, some 4, .mv (.k (.c (.i 0)))⟩])
  (.block 0 (.loop (.seq (.seq (.reg [
        ⟨none, some 8, .mv (.t 4)⟩,
        ⟨none, some 9, .mv (.t 0)⟩,
        ⟨none, some 10, .len (.t 9)⟩,
        ⟨none, some 11, .bin .lss (.t 8) (.t 10)⟩])
     (.cond (.t 11)
      (.skip)
      (.exit 0)))
    (.seq (.block 1 (.reg [
        ⟨none, some 14, .mv (.t 3)⟩,
        ⟨none, some 15, .mv (.t 4)⟩,
        ⟨none, some 16, .mv (.t 0)⟩,
        ⟨none, some 17, .mv (.t 4)⟩,
        ⟨none, some 18, .idx 1 (.t 16) (.t 17)⟩,
        ⟨none, some 19, .ld1 (.t 18)⟩,
        ⟨none, some 20, .call n_laws_toBoatS [.t 19]⟩,
        ⟨none, some 21, .idx 1 (.t 14) (.t 15)⟩,
        ⟨none, none, .st1 (.t 21) (.t 20)⟩]))
    (.reg [
      ⟨none, some 12, .mv (.t 4)⟩,
      ⟨none, some 13, .bin .add (.t 12) (.k (.c (.i 1)))⟩,
      ⟨none, some 4, .mv (.t 13)⟩]))))))
 (.seq (.reg [
    ⟨none, some 22, .mv (.t 3)⟩,
    ⟨none, some 2, .mv (.t 22)⟩])
 (.ret))))
theorem h_laws_toBoatSS : Has Try.prog n_laws_toBoatSS 23 c_laws_toBoatSS [.t 2] := ⟨by decide, Try.f134, _, Try.func134, rfl, rfl, by kernel_rfl, by kernel_rfl⟩

def c_laws_eqBoatSS : SC :=
 .seq (.reg [
    ⟨none, some 4, .mv (.k (.c (.b false)))⟩])
 (.seq (.seq (.reg [
     ⟨none, some 6, .mv (.t 0)⟩,
     ⟨none, some 7, .len (.t 6)⟩,
     ⟨none, some 8, .mv (.t 1)⟩,
     ⟨none, some 9, .len (.t 8)⟩,
     ⟨none, some 10, .bin .neq (.t 7) (.t 9)⟩])
  (.cond (.t 10)
   (.seq (.reg [
       ⟨none, some 4, .mv (.k (.c (.b false)))⟩])
    (.ret))
   (.skip)))
 (.seq (.seq (.reg [
     ⟨none, some 5, .mv (.k (.c (.i 0)))⟩])
  (.block 0 (.loop (.seq (.seq (.reg [
        ⟨none, some 11, .mv (.t 5)⟩,
        ⟨none, some 12, .mv (.t 0)⟩,
        ⟨none, some 13, .len (.t 12)⟩,
        ⟨none, some 14, .bin .lss (.t 11) (.t 13)⟩])
     (.cond (.t 14)
      (.skip)
      (.exit 0)))
    (.seq (.block 1 (.seq (.regq [
         ⟨none, some 17, .mv (.t 0)⟩,
         ⟨none, some 18, .mv (.t 5)⟩,
         ⟨none, some 19, .idx 1 (.t 17) (.t 18)⟩,
         ⟨none, some 20, .ld1 (.t 19)⟩,
         ⟨none, some 21, .mv (.t 1)⟩,
         ⟨none, some 22, .mv (.t 5)⟩,
         ⟨none, some 23, .idx 1 (.t 21) (.t 22)⟩,
         ⟨none, some 24, .ld1 (.t 23)⟩,
         ⟨none, some 25, .call n_laws_eqBoatS [.t 20, .t 24]⟩,
         ⟨none, some 26, .not (.t 25)⟩])
      (.cond (.t 26)
       (.seq (.reg [
           ⟨none, some 4, .mv (.k (.c (.b false)))⟩])
        (.ret))
       (.skip))))
    (.reg [
      ⟨none, some 15, .mv (.t 5)⟩,
      ⟨none, some 16, .bin .add (.t 15) (.k (.c (.i 1)))⟩,
      ⟨none, some 5, .mv (.t 16)⟩]))))))
 (.seq (.reg [
    ⟨none, some 4, .mv (.k (.c (.b true)))⟩])
 (.ret))))
theorem h_laws_eqBoatSS : Has Try.prog n_laws_eqBoatSS 27 c_laws_eqBoatSS [.t 4] := ⟨by decide, Try.f137, _, Try.func137, rfl, rfl, by kernel_rfl, by kernel_rfl⟩

def c_spec_l04Boats : SC :=
 .seq (.reg [
    ⟨none, some 1, .box 2 (.t 0)⟩,
    ⟨none, some 2, .mv (.k (.nil 6))⟩])
 (.seq (.reg [
    ⟨none, some 5, .bsl 6 []⟩,
    ⟨none, some 3, .mv (.t 5)⟩])
 (.seq (.seq (.reg [
     ⟨none, some 4, .mv (.k (.c (.i 0)))⟩])
  (.block 0 (.loop (.seq (.seq (.reg [
        ⟨none, some 6, .mv (.t 4)⟩,
        ⟨none, some 7, .fld 1 (.t 1)⟩,
        ⟨none, some 8, .ld1 (.t 7)⟩,
        ⟨none, some 9, .len (.t 8)⟩,
        ⟨none, some 10, .bin .lss (.t 6) (.t 9)⟩])
     (.cond (.t 10)
      (.skip)
      (.exit 0)))
    (.seq (.block 1 (.reg [
        ⟨none, some 13, .mv (.t 3)⟩,
        ⟨none, some 14, .fld 1 (.t 1)⟩,
        ⟨none, some 15, .ld1 (.t 14)⟩,
        ⟨none, some 16, .mv (.t 4)⟩,
        ⟨none, some 17, .idx 1 (.t 15) (.t 16)⟩,
        ⟨none, some 18, .ld1 (.t 17)⟩,
        ⟨none, some 19, .app 6 48 (.t 13) (.t 18)⟩,
        ⟨none, some 3, .mv (.t 19)⟩]))
    (.reg [
      ⟨none, some 11, .mv (.t 4)⟩,
      ⟨none, some 12, .bin .add (.t 11) (.k (.c (.i 1)))⟩,
      ⟨none, some 4, .mv (.t 12)⟩]))))))
 (.seq (.reg [
    ⟨none, some 20, .mv (.t 3)⟩,
    ⟨none, some 2, .mv (.t 20)⟩])
 (.ret))))
theorem h_spec_l04Boats : Has Try.prog n_spec_l04Boats 21 c_spec_l04Boats [.t 2] := ⟨by decide, Try.f154, _, Try.func154, rfl, rfl, by kernel_rfl, by kernel_rfl⟩

def c_spec_BoatOk : SC :=
 .seq (.reg [
    ⟨none, some 1, .box 6 (.t 0)⟩,
    ⟨none, some 2, .mv (.k (.c (.b false)))⟩])
 (.seq (.reg [
    ⟨none, some 3, .fld 0 (.t 1)⟩,
    ⟨none, some 4, .ld1 (.t 3)⟩,
    ⟨none, some 5, .call n_spec_l01In [.t 4, .k (.c (.i 1)), .k (.c (.i 9999))]⟩,
    ⟨none, some 6, .mv (.t 5)⟩,
    ⟨some (6, true), some 7, .fld 1 (.t 1)⟩,
    ⟨some (6, true), some 8, .ld1 (.t 7)⟩,
    ⟨some (6, true), some 9, .call n_spec_l01In [.t 8, .k (.c (.i 1)), .k (.c (.i 200))]⟩,
    ⟨none, some 10, .pick (.t 6) (.t 9) (.k (.c (.b false)))⟩,
    ⟨none, some 11, .mv (.t 10)⟩,
    ⟨some (11, true), some 12, .fld 2 (.t 1)⟩,
    ⟨some (11, true), some 13, .ld1 (.t 12)⟩,
    ⟨some (11, true), some 14, .call n_spec_l01In [.t 13, .k (.c (.i 1)), .k (.c (.i 30))]⟩,
    ⟨none, some 15, .pick (.t 11) (.t 14) (.k (.c (.b false)))⟩,
    ⟨none, some 16, .mv (.t 15)⟩,
    ⟨some (16, true), some 17, .fld 3 (.t 1)⟩,
    ⟨some (16, true), some 18, .ld1 (.t 17)⟩,
    ⟨some (16, true), some 19, .call n_spec_l01In [.t 18, .k (.c (.i 1)), .k (.c (.i 100))]⟩,
    ⟨none, some 20, .pick (.t 16) (.t 19) (.k (.c (.b false)))⟩,
    ⟨none, some 21, .mv (.t 20)⟩,
    ⟨some (21, true), some 22, .fld 4 (.t 1)⟩,
    ⟨some (21, true), some 23, .ld1 (.t 22)⟩,
    ⟨some (21, true), some 24, .call n_spec_l01In [.t 23, .k (.c (.i 1)), .k (.c (.i 50))]⟩,
    ⟨none, some 25, .pick (.t 21) (.t 24) (.k (.c (.b false)))⟩,
    ⟨none, some 26, .mv (.t 25)⟩,
    ⟨some (26, true), some 27, .fld 5 (.t 1)⟩,
    ⟨some (26, true), some 28, .ld1 (.t 27)⟩,
    ⟨some (26, true), some 29, .call n_spec_l01In [.t 28, .k (.c (.i 0)), .k (.c (.i 2))]⟩,
    ⟨none, some 30, .pick (.t 26) (.t 29) (.k (.c (.b false)))⟩,
    ⟨none, some 2, .mv (.t 30)⟩])
 (.ret))
theorem h_spec_BoatOk : Has Try.prog n_spec_BoatOk 31 c_spec_BoatOk [.t 2] := ⟨by decide, Try.f200, _, Try.func200, rfl, rfl, by kernel_rfl, by kernel_rfl⟩

def c_impl_BoatOk : SC :=
 .seq (.reg [
    ⟨none, some 1, .box 6 (.t 0)⟩,
    ⟨none, some 2, .mv (.k (.c (.b false)))⟩])
 (.seq (.reg [
    ⟨none, some 3, .fld 0 (.t 1)⟩,
    ⟨none, some 4, .ld1 (.t 3)⟩,
    ⟨none, some 5, .call n_impl_inRange [.t 4, .k (.c (.i 1)), .k (.c (.i 9999))]⟩,
    ⟨none, some 6, .mv (.t 5)⟩,
    ⟨some (6, true), some 7, .fld 1 (.t 1)⟩,
    ⟨some (6, true), some 8, .ld1 (.t 7)⟩,
    ⟨some (6, true), some 9, .call n_impl_inRange [.t 8, .k (.c (.i 1)), .k (.c (.i 200))]⟩,
    ⟨none, some 10, .pick (.t 6) (.t 9) (.k (.c (.b false)))⟩,
    ⟨none, some 11, .mv (.t 10)⟩,
    ⟨some (11, true), some 12, .fld 2 (.t 1)⟩,
    ⟨some (11, true), some 13, .ld1 (.t 12)⟩,
    ⟨some (11, true), some 14, .call n_impl_inRange [.t 13, .k (.c (.i 1)), .k (.c (.i 30))]⟩,
    ⟨none, some 15, .pick (.t 11) (.t 14) (.k (.c (.b false)))⟩,
    ⟨none, some 16, .mv (.t 15)⟩,
    ⟨some (16, true), some 17, .fld 3 (.t 1)⟩,
    ⟨some (16, true), some 18, .ld1 (.t 17)⟩,
    ⟨some (16, true), some 19, .call n_impl_inRange [.t 18, .k (.c (.i 1)), .k (.c (.i 100))]⟩,
    ⟨none, some 20, .pick (.t 16) (.t 19) (.k (.c (.b false)))⟩,
    ⟨none, some 21, .mv (.t 20)⟩,
    ⟨some (21, true), some 22, .fld 4 (.t 1)⟩,
    ⟨some (21, true), some 23, .ld1 (.t 22)⟩,
    ⟨some (21, true), some 24, .call n_impl_inRange [.t 23, .k (.c (.i 1)), .k (.c (.i 50))]⟩,
    ⟨none, some 25, .pick (.t 21) (.t 24) (.k (.c (.b false)))⟩,
    ⟨none, some 26, .mv (.t 25)⟩,
    ⟨some (26, true), some 27, .fld 5 (.t 1)⟩,
    ⟨some (26, true), some 28, .ld1 (.t 27)⟩,
    ⟨some (26, true), some 29, .call n_impl_inRange [.t 28, .k (.c (.i 0)), .k (.c (.i 2))]⟩,
    ⟨none, some 30, .pick (.t 26) (.t 29) (.k (.c (.b false)))⟩,
    ⟨none, some 2, .mv (.t 30)⟩])
 (.ret))
theorem h_impl_BoatOk : Has Try.prog n_impl_BoatOk 31 c_impl_BoatOk [.t 2] := ⟨by decide, Try.f201, _, Try.func201, rfl, rfl, by kernel_rfl, by kernel_rfl⟩

def c_slices_Contains___int_int_ : SC :=
 .seq (.reg [
    ⟨none, some 4, .mv (.k (.c (.b false)))⟩])
 (.seq (.reg [
    ⟨none, some 5, .mv (.t 0)⟩,
    ⟨none, some 6, .mv (.t 1)⟩,
    ⟨none, some 7, .call n_slices_Index___int_int_ [.t 5, .t 6]⟩,
    ⟨none, some 8, .bin .geq (.t 7) (.k (.c (.i 0)))⟩,
    ⟨none, some 4, .mv (.t 8)⟩])
 (.ret))
theorem h_slices_Contains___int_int_ : Has Try.prog n_slices_Contains___int_int_ 9 c_slices_Contains___int_int_ [.t 4] := ⟨by decide, Try.f202, _, Try.func202, rfl, rfl, by kernel_rfl, by kernel_rfl⟩

def c_laws_szBoatS : SC :=
 .seq (.reg [
    ⟨none, some 4, .mv (.k (.c (.i 0)))⟩])
 (.seq (.reg [
    ⟨none, some 5, .mv (.t 1)⟩,
    ⟨none, some 6, .mv (.t 0)⟩,
    ⟨none, some 7, .len (.t 6)⟩,
    ⟨none, some 8, .bin .sub (.t 5) (.t 7)⟩,
    ⟨none, some 1, .mv (.t 8)⟩])
 (.seq (.seq (.reg [
     ⟨none, some 9, .mv (.t 1)⟩,
     ⟨none, some 10, .bin .lss (.t 9) (.k (.c (.i 0)))⟩])
  (.cond (.t 10)
   (.seq (.reg [
       ⟨none, some 4, .mv (.k (.c (.i (-1))))⟩])
    (.ret))
   (.skip)))
 (.seq (.reg [
    ⟨none, some 11, .mv (.t 1)⟩,
    ⟨none, some 4, .mv (.t 11)⟩])
 (.ret))))
theorem h_laws_szBoatS : Has Try.prog n_laws_szBoatS 12 c_laws_szBoatS [.t 4] := ⟨by decide, Try.f203, _, Try.func203, rfl, rfl, by kernel_rfl, by kernel_rfl⟩

def c_laws_toBoatS : SC :=
 .seq (.reg [
    ⟨none, some 2, .mv (.k (.nil 6))⟩])
 (.seq (.reg [
    ⟨none, some 5, .mv (.t 0)⟩,
    ⟨none, some 6, .len (.t 5)⟩,
    ⟨none, some 7, .mks 6 48 [.i 0, .i 0, .i 0, .i 0, .i 0, .i 0] (.t 6) (.t 6)⟩,
    ⟨none, some 3, .mv (.t 7)⟩])
 (.seq (.seq (.reg [
     ⟨none, some 4, .mv (.k (.c (.i 0)))⟩])
  (.block 0 (.loop (.seq (.seq (.reg [
        ⟨none, some 8, .mv (.t 4)⟩,
        ⟨none, some 9, .mv (.t 0)⟩,
        ⟨none, some 10, .len (.t 9)⟩,
        ⟨none, some 11, .bin .lss (.t 8) (.t 10)⟩])
     (.cond (.t 11)
      (.skip)
      (.exit 0)))
    (.seq (.block 1 (.reg [
        ⟨none, some 14, .mv (.t 3)⟩,
        ⟨none, some 15, .mv (.t 4)⟩,
        ⟨none, some 16, .mv (.t 0)⟩,
        ⟨none, some 17, .mv (.t 4)⟩,
        ⟨none, some 18, .idx 6 (.t 16) (.t 17)⟩,
        ⟨none, some 19, .ldn 6 (.t 18)⟩,
        ⟨none, some 20, .call n_laws_toBoat [.t 19]⟩,
        ⟨none, some 21, .idx 6 (.t 14) (.t 15)⟩,
        ⟨none, none, .stn 6 (.t 21) (.t 20)⟩]))
    (.reg [
      ⟨none, some 12, .mv (.t 4)⟩,
      ⟨none, some 13, .bin .add (.t 12) (.k (.c (.i 1)))⟩,
      ⟨none, some 4, .mv (.t 13)⟩]))))))
 (.seq (.reg [
    ⟨none, some 22, .mv (.t 3)⟩,
    ⟨none, some 2, .mv (.t 22)⟩])
 (.ret))))
theorem h_laws_toBoatS : Has Try.prog n_laws_toBoatS 23 c_laws_toBoatS [.t 2] := ⟨by decide, Try.f204, _, Try.func204, rfl, rfl, by kernel_rfl, by kernel_rfl⟩

def c_laws_eqBoatS : SC :=
 .seq (.reg [
    ⟨none, some 4, .mv (.k (.c (.b false)))⟩])
 (.seq (.seq (.reg [
     ⟨none, some 6, .mv (.t 0)⟩,
     ⟨none, some 7, .len (.t 6)⟩,
     ⟨none, some 8, .mv (.t 1)⟩,
     ⟨none, some 9, .len (.t 8)⟩,
     ⟨none, some 10, .bin .neq (.t 7) (.t 9)⟩])
  (.cond (.t 10)
   (.seq (.reg [
       ⟨none, some 4, .mv (.k (.c (.b false)))⟩])
    (.ret))
   (.skip)))
 (.seq (.seq (.reg [
     ⟨none, some 5, .mv (.k (.c (.i 0)))⟩])
  (.block 0 (.loop (.seq (.seq (.reg [
        ⟨none, some 11, .mv (.t 5)⟩,
        ⟨none, some 12, .mv (.t 0)⟩,
        ⟨none, some 13, .len (.t 12)⟩,
        ⟨none, some 14, .bin .lss (.t 11) (.t 13)⟩])
     (.cond (.t 14)
      (.skip)
      (.exit 0)))
    (.seq (.block 1 (.seq (.regq [
         ⟨none, some 17, .mv (.t 0)⟩,
         ⟨none, some 18, .mv (.t 5)⟩,
         ⟨none, some 19, .idx 6 (.t 17) (.t 18)⟩,
         ⟨none, some 20, .ldn 6 (.t 19)⟩,
         ⟨none, some 21, .mv (.t 1)⟩,
         ⟨none, some 22, .mv (.t 5)⟩,
         ⟨none, some 23, .idx 6 (.t 21) (.t 22)⟩,
         ⟨none, some 24, .ldn 6 (.t 23)⟩,
         ⟨none, some 25, .call n_laws_eqBoat [.t 20, .t 24]⟩,
         ⟨none, some 26, .not (.t 25)⟩])
      (.cond (.t 26)
       (.seq (.reg [
           ⟨none, some 4, .mv (.k (.c (.b false)))⟩])
        (.ret))
       (.skip))))
    (.reg [
      ⟨none, some 15, .mv (.t 5)⟩,
      ⟨none, some 16, .bin .add (.t 15) (.k (.c (.i 1)))⟩,
      ⟨none, some 5, .mv (.t 16)⟩]))))))
 (.seq (.reg [
    ⟨none, some 4, .mv (.k (.c (.b true)))⟩])
 (.ret))))
theorem h_laws_eqBoatS : Has Try.prog n_laws_eqBoatS 27 c_laws_eqBoatS [.t 4] := ⟨by decide, Try.f206, _, Try.func206, rfl, rfl, by kernel_rfl, by kernel_rfl⟩

def c_slices_Index___int_int_ : SC :=
 .seq (.reg [
    ⟨none, some 4, .mv (.k (.c (.i 0)))⟩])
 (.seq (.seq (.reg [
     ⟨none, some 6, .mv (.t 0)⟩,
     ⟨none, some 7, .len (.t 6)⟩,
     ⟨none, some 8, .mv (.k (.c (.i 0)))⟩])
  (.block 0 (.loop (.seq (.reg [
       ⟨none, some 9, .bin .lss (.t 8) (.t 7)⟩])
    (.seq (.cond (.t 9)
      (.skip)
      (.exit 0))
    (.seq (.block 1 (.seq (.reg [
         ⟨none, some 10, .mv (.t 8)⟩,
         ⟨none, some 5, .mv (.t 10)⟩])
      (.seq (.reg [
         ⟨none, some 11, .mv (.t 1)⟩,
         ⟨none, some 12, .mv (.t 0)⟩,
         ⟨none, some 13, .mv (.t 5)⟩,
         ⟨none, some 14, .idx 1 (.t 12) (.t 13)⟩,
         ⟨none, some 15, .ld1 (.t 14)⟩,
         ⟨none, some 16, .bin .eql (.t 11) (.t 15)⟩])
      (.cond (.t 16)
       (.seq (.reg [
           ⟨none, some 17, .mv (.t 5)⟩,
           ⟨none, some 4, .mv (.t 17)⟩])
        (.ret))
       (.skip)))))
    (.reg [
      ⟨none, some 18, .bin .add (.t 8) (.k (.c (.i 1)))⟩,
      ⟨none, some 8, .mv (.t 18)⟩])))))))
 (.seq (.reg [
    ⟨none, some 4, .mv (.k (.c (.i (-1))))⟩])
 (.ret)))
theorem h_slices_Index___int_int_ : Has Try.prog n_slices_Index___int_int_ 19 c_slices_Index___int_int_ [.t 4] := ⟨by decide, Try.f229, _, Try.func229, rfl, rfl, by kernel_rfl, by kernel_rfl⟩

def c_laws_toBoat : SC :=
 .seq (.reg [
    ⟨none, some 1, .box 6 (.t 0)⟩,
    ⟨none, some 2, .alloc [.c (.i 0), .c (.i 0), .c (.i 0), .c (.i 0), .c (.i 0), .c (.i 0)]⟩])
 (.seq (.reg [
    ⟨none, some 3, .alloc [.c (.i 0), .c (.i 0), .c (.i 0), .c (.i 0), .c (.i 0), .c (.i 0)]⟩])
 (.seq (.reg [
    ⟨none, some 4, .fld 0 (.t 1)⟩,
    ⟨none, some 5, .ld1 (.t 4)⟩,
    ⟨none, some 6, .fld 0 (.t 3)⟩,
    ⟨none, none, .st1 (.t 6) (.t 5)⟩])
 (.seq (.reg [
    ⟨none, some 7, .fld 1 (.t 1)⟩,
    ⟨none, some 8, .ld1 (.t 7)⟩,
    ⟨none, some 9, .fld 1 (.t 3)⟩,
    ⟨none, none, .st1 (.t 9) (.t 8)⟩])
 (.seq (.reg [
    ⟨none, some 10, .fld 2 (.t 1)⟩,
    ⟨none, some 11, .ld1 (.t 10)⟩,
    ⟨none, some 12, .fld 2 (.t 3)⟩,
    ⟨none, none, .st1 (.t 12) (.t 11)⟩])
 (.seq (.reg [
    ⟨none, some 13, .fld 3 (.t 1)⟩,
    ⟨none, some 14, .ld1 (.t 13)⟩,
    ⟨none, some 15, .fld 3 (.t 3)⟩,
    ⟨none, none, .st1 (.t 15) (.t 14)⟩])
 (.seq (.reg [
    ⟨none, some 16, .fld 4 (.t 1)⟩,
    ⟨none, some 17, .ld1 (.t 16)⟩,
    ⟨none, some 18, .fld 4 (.t 3)⟩,
    ⟨none, none, .st1 (.t 18) (.t 17)⟩])
 (.seq (.reg [
    ⟨none, some 19, .fld 5 (.t 1)⟩,
    ⟨none, some 20, .ld1 (.t 19)⟩,
    ⟨none, some 21, .fld 5 (.t 3)⟩,
    ⟨none, none, .st1 (.t 21) (.t 20)⟩])
 (.seq (.reg [
    ⟨none, some 22, .ldn 6 (.t 3)⟩,
    ⟨none, none, .stn 6 (.t 2) (.t 22)⟩])
 (.ret)))))))))
theorem h_laws_toBoat : Has Try.prog n_laws_toBoat 23 c_laws_toBoat [.cl 2 6] := ⟨by decide, Try.f230, _, Try.func230, rfl, rfl, by kernel_rfl, by kernel_rfl⟩

def c_laws_eqBoat : SC :=
 .seq (.reg [
    ⟨none, some 2, .box 6 (.t 0)⟩,
    ⟨none, some 3, .box 6 (.t 1)⟩,
    ⟨none, some 4, .mv (.k (.c (.b false)))⟩])
 (.seq (.seq (.reg [
     ⟨none, some 5, .fld 0 (.t 2)⟩,
     ⟨none, some 6, .ld1 (.t 5)⟩,
     ⟨none, some 7, .fld 0 (.t 3)⟩,
     ⟨none, some 8, .ld1 (.t 7)⟩,
     ⟨none, some 9, .bin .neq (.t 6) (.t 8)⟩])
  (.cond (.t 9)
   (.seq (.reg [
       ⟨none, some 4, .mv (.k (.c (.b false)))⟩])
    (.ret))
   (.skip)))
 (.seq (.seq (.reg [
     ⟨none, some 10, .fld 1 (.t 2)⟩,
     ⟨none, some 11, .ld1 (.t 10)⟩,
     ⟨none, some 12, .fld 1 (.t 3)⟩,
     ⟨none, some 13, .ld1 (.t 12)⟩,
     ⟨none, some 14, .bin .neq (.t 11) (.t 13)⟩])
  (.cond (.t 14)
   (.seq (.reg [
       ⟨none, some 4, .mv (.k (.c (.b false)))⟩])
    (.ret))
   (.skip)))
 (.seq (.seq (.reg [
     ⟨none, some 15, .fld 2 (.t 2)⟩,
     ⟨none, some 16, .ld1 (.t 15)⟩,
     ⟨none, some 17, .fld 2 (.t 3)⟩,
     ⟨none, some 18, .ld1 (.t 17)⟩,
     ⟨none, some 19, .bin .neq (.t 16) (.t 18)⟩])
  (.cond (.t 19)
   (.seq (.reg [
       ⟨none, some 4, .mv (.k (.c (.b false)))⟩])
    (.ret))
   (.skip)))
 (.seq (.seq (.reg [
     ⟨none, some 20, .fld 3 (.t 2)⟩,
     ⟨none, some 21, .ld1 (.t 20)⟩,
     ⟨none, some 22, .fld 3 (.t 3)⟩,
     ⟨none, some 23, .ld1 (.t 22)⟩,
     ⟨none, some 24, .bin .neq (.t 21) (.t 23)⟩])
  (.cond (.t 24)
   (.seq (.reg [
       ⟨none, some 4, .mv (.k (.c (.b false)))⟩])
    (.ret))
   (.skip)))
 (.seq (.seq (.reg [
     ⟨none, some 25, .fld 4 (.t 2)⟩,
     ⟨none, some 26, .ld1 (.t 25)⟩,
     ⟨none, some 27, .fld 4 (.t 3)⟩,
     ⟨none, some 28, .ld1 (.t 27)⟩,
     ⟨none, some 29, .bin .neq (.t 26) (.t 28)⟩])
  (.cond (.t 29)
   (.seq (.reg [
       ⟨none, some 4, .mv (.k (.c (.b false)))⟩])
    (.ret))
   (.skip)))
 (.seq (.seq (.reg [
     ⟨none, some 30, .fld 5 (.t 2)⟩,
     ⟨none, some 31, .ld1 (.t 30)⟩,
     ⟨none, some 32, .fld 5 (.t 3)⟩,
     ⟨none, some 33, .ld1 (.t 32)⟩,
     ⟨none, some 34, .bin .neq (.t 31) (.t 33)⟩])
  (.cond (.t 34)
   (.seq (.reg [
       ⟨none, some 4, .mv (.k (.c (.b false)))⟩])
    (.ret))
   (.skip)))
 (.seq (.reg [
    ⟨none, some 4, .mv (.k (.c (.b true)))⟩])
 (.ret))))))))
theorem h_laws_eqBoat : Has Try.prog n_laws_eqBoat 35 c_laws_eqBoat [.t 4] := ⟨by decide, Try.f231, _, Try.func231, rfl, rfl, by kernel_rfl, by kernel_rfl⟩

def c_laws_FnExactAtEnd : SC :=
 .seq (.reg [
    ⟨none, some 2, .box 3 (.t 0)⟩,
    ⟨none, some 3, .box 2 (.t 1)⟩,
    ⟨none, some 4, .mv (.k (.c (.b false)))⟩])
 (.seq (.reg [
    ⟨none, some 5, .mv (.k (.c (.i 1048576)))⟩])
 (.seq (.reg [
    ⟨none, some 9, .ldn 3 (.t 2)⟩,
    ⟨none, some 10, .mv (.t 5)⟩,
    ⟨none, some 11, .call n_laws_szMover [.t 9, .t 10]⟩,
    ⟨none, some 5, .mv (.t 11)⟩])
 (.seq (.seq (.reg [
     ⟨none, some 12, .mv (.t 5)⟩,
     ⟨none, some 13, .bin .lss (.t 12) (.k (.c (.i 0)))⟩])
  (.cond (.t 13)
   (.seq (.reg [
       ⟨none, some 4, .mv (.k (.c (.b true)))⟩])
    (.ret))
   (.skip)))
 (.seq (.regq [
    ⟨none, some 14, .ldn 3 (.t 2)⟩,
    ⟨none, some 15, .call n_laws_toMover [.t 14]⟩,
    ⟨none, some 16, .ldn 2 (.t 3)⟩,
    ⟨none, some 17, .call n_laws_toWay [.t 16]⟩,
    ⟨none, some 18, .call n_spec_AtEnd [.t 15, .t 17]⟩,
    ⟨none, some 6, .mv (.t 18)⟩])
 (.seq (.reg [
    ⟨none, some 19, .ldn 3 (.t 2)⟩,
    ⟨none, some 20, .call n_laws_toMover [.t 19]⟩,
    ⟨none, some 7, .alloc [.c (.b false), .nil 1, .c (.i 0)]⟩,
    ⟨none, none, .stn 3 (.t 7) (.t 20)⟩])
 (.seq (.regq [
    ⟨none, some 21, .ldn 3 (.t 7)⟩,
    ⟨none, some 22, .ldn 2 (.t 3)⟩,
    ⟨none, some 23, .call n_laws_toWay [.t 22]⟩,
    ⟨none, some 24, .call n_impl_AtEnd [.t 21, .t 23]⟩,
    ⟨none, some 8, .mv (.t 24)⟩])
 (.seq (.seq (.reg [
     ⟨none, some 25, .mv (.t 8)⟩,
     ⟨none, some 26, .mv (.t 6)⟩,
     ⟨none, some 27, .beq true (.t 25) (.t 26)⟩])
  (.cond (.t 27)
   (.seq (.reg [
       ⟨none, some 4, .mv (.k (.c (.b false)))⟩])
    (.ret))
   (.skip)))
 (.seq (.seq (.regq [
     ⟨none, some 28, .ldn 3 (.t 7)⟩,
     ⟨none, some 29, .ldn 3 (.t 2)⟩,
     ⟨none, some 30, .call n_laws_toMover [.t 29]⟩,
     ⟨none, some 31, .call n_laws_eqMover [.t 28, .t 30]⟩,
     ⟨none, some 32, .not (.t 31)⟩])
  (.cond (.t 32)
   (.seq (.reg [
       ⟨none, some 4, .mv (.k (.c (.b false)))⟩])
    (.ret))
   (.skip)))
 (.seq (.reg [
    ⟨none, some 4, .mv (.k (.c (.b true)))⟩])
 (.ret))))))))))
theorem h_laws_FnExactAtEnd : Has Try.prog n_laws_FnExactAtEnd 33 c_laws_FnExactAtEnd [.t 4] := ⟨by decide, Try.f13, _, Try.func13, rfl, rfl, by kernel_rfl, by kernel_rfl⟩

def c_spec_AtEnd : SC :=
 .seq (.reg [
    ⟨none, some 2, .box 3 (.t 0)⟩,
    ⟨none, some 3, .box 2 (.t 1)⟩,
    ⟨none, some 4, .mv (.k (.c (.b false)))⟩])
 (.seq (.seq (.reg [
     ⟨none, some 5, .ldn 3 (.t 2)⟩,
     ⟨none, some 6, .ldn 2 (.t 3)⟩,
     ⟨none, some 7, .call n_spec_MoverOk [.t 5, .t 6]⟩,
     ⟨none, some 8, .not (.t 7)⟩])
  (.cond (.t 8)
   (.seq (.reg [
       ⟨none, some 4, .mv (.k (.c (.b false)))⟩])
    (.ret))
   (.skip)))
 (.seq (.seq (.reg [
     ⟨none, some 9, .fld 0 (.t 2)⟩,
     ⟨none, some 10, .fld 0 (.t 9)⟩,
     ⟨none, some 11, .ld1 (.t 10)⟩])
  (.cond (.t 11)
   (.seq (.reg [
       ⟨none, some 12, .fld 2 (.t 2)⟩,
       ⟨none, some 13, .ld1 (.t 12)⟩,
       ⟨none, some 14, .bin .eql (.t 13) (.k (.c (.i 0)))⟩,
       ⟨none, some 4, .mv (.t 14)⟩])
    (.ret))
   (.skip)))
 (.seq (.reg [
    ⟨none, some 15, .fld 2 (.t 2)⟩,
    ⟨none, some 16, .ld1 (.t 15)⟩,
    ⟨none, some 17, .fld 0 (.t 3)⟩,
    ⟨none, some 18, .ld1 (.t 17)⟩,
    ⟨none, some 19, .bin .eql (.t 16) (.t 18)⟩,
    ⟨none, some 4, .mv (.t 19)⟩])
 (.ret))))
theorem h_spec_AtEnd : Has Try.prog n_spec_AtEnd 20 c_spec_AtEnd [.t 4] := ⟨by decide, Try.f66, _, Try.func66, rfl, rfl, by kernel_rfl, by kernel_rfl⟩

def c_impl_AtEnd : SC :=
 .seq (.reg [
    ⟨none, some 2, .box 3 (.t 0)⟩,
    ⟨none, some 3, .box 2 (.t 1)⟩,
    ⟨none, some 4, .mv (.k (.c (.b false)))⟩])
 (.seq (.regq [
    ⟨none, some 5, .ldn 3 (.t 2)⟩,
    ⟨none, some 6, .ldn 2 (.t 3)⟩,
    ⟨none, some 7, .call n_impl_MoverOk [.t 5, .t 6]⟩,
    ⟨none, some 8, .mv (.t 7)⟩,
    ⟨some (8, true), some 9, .fld 2 (.t 2)⟩,
    ⟨some (8, true), some 10, .ld1 (.t 9)⟩,
    ⟨some (8, true), some 11, .fld 0 (.t 2)⟩,
    ⟨some (8, true), some 12, .ldn 2 (.t 11)⟩,
    ⟨some (8, true), some 13, .ldn 2 (.t 3)⟩,
    ⟨some (8, true), some 14, .call n_impl_endOf [.t 12, .t 13]⟩,
    ⟨some (8, true), some 15, .bin .eql (.t 10) (.t 14)⟩,
    ⟨none, some 16, .pick (.t 8) (.t 15) (.k (.c (.b false)))⟩,
    ⟨none, some 4, .mv (.t 16)⟩])
 (.ret))
theorem h_impl_AtEnd : Has Try.prog n_impl_AtEnd 17 c_impl_AtEnd [.t 4] := ⟨by decide, Try.f67, _, Try.func67, rfl, rfl, by kernel_rfl, by kernel_rfl⟩

def c_impl_endOf : SC :=
 .seq (.reg [
    ⟨none, some 2, .box 2 (.t 0)⟩,
    ⟨none, some 3, .box 2 (.t 1)⟩,
    ⟨none, some 4, .mv (.k (.c (.i 0)))⟩])
 (.seq (.seq (.reg [
     ⟨none, some 5, .fld 0 (.t 2)⟩,
     ⟨none, some 6, .ld1 (.t 5)⟩])
  (.cond (.t 6)
   (.seq (.reg [
       ⟨none, some 4, .mv (.k (.c (.i 0)))⟩])
    (.ret))
   (.skip)))
 (.seq (.reg [
    ⟨none, some 7, .fld 0 (.t 3)⟩,
    ⟨none, some 8, .ld1 (.t 7)⟩,
    ⟨none, some 4, .mv (.t 8)⟩])
 (.ret)))
theorem h_impl_endOf : Has Try.prog n_impl_endOf 9 c_impl_endOf [.t 4] := ⟨by decide, Try.f132, _, Try.func132, rfl, rfl, by kernel_rfl, by kernel_rfl⟩

def c_laws_FnExactPaceOf : SC :=
 .seq (.reg [
    ⟨none, some 2, .box 2 (.t 0)⟩,
    ⟨none, some 4, .mv (.k (.c (.b false)))⟩])
 (.seq (.reg [
    ⟨none, some 5, .mv (.k (.c (.i 1048576)))⟩])
 (.seq (.reg [
    ⟨none, some 9, .ldn 2 (.t 2)⟩,
    ⟨none, some 10, .mv (.t 5)⟩,
    ⟨none, some 11, .call n_laws_szTrain [.t 9, .t 10]⟩,
    ⟨none, some 5, .mv (.t 11)⟩])
 (.seq (.seq (.reg [
     ⟨none, some 12, .mv (.t 5)⟩,
     ⟨none, some 13, .bin .lss (.t 12) (.k (.c (.i 0)))⟩])
  (.cond (.t 13)
   (.seq (.reg [
       ⟨none, some 4, .mv (.k (.c (.b true)))⟩])
    (.ret))
   (.skip)))
 (.seq (.reg [
    ⟨none, some 14, .ldn 2 (.t 2)⟩,
    ⟨none, some 15, .call n_laws_toTrain [.t 14]⟩,
    ⟨none, some 16, .mv (.t 1)⟩,
    ⟨none, some 17, .call n_spec_PaceOf [.t 15, .t 16]⟩,
    ⟨none, some 6, .mv (.t 17)⟩])
 (.seq (.reg [
    ⟨none, some 18, .ldn 2 (.t 2)⟩,
    ⟨none, some 19, .call n_laws_toTrain [.t 18]⟩,
    ⟨none, some 7, .alloc [.c (.b false), .nil 1]⟩,
    ⟨none, none, .stn 2 (.t 7) (.t 19)⟩])
 (.seq (.reg [
    ⟨none, some 20, .ldn 2 (.t 7)⟩,
    ⟨none, some 21, .mv (.t 1)⟩,
    ⟨none, some 22, .call n_impl_PaceOf [.t 20, .t 21]⟩,
    ⟨none, some 8, .mv (.t 22)⟩])
 (.seq (.seq (.reg [
     ⟨none, some 23, .mv (.t 8)⟩,
     ⟨none, some 24, .mv (.t 6)⟩,
     ⟨none, some 25, .bin .neq (.t 23) (.t 24)⟩])
  (.cond (.t 25)
   (.seq (.reg [
       ⟨none, some 4, .mv (.k (.c (.b false)))⟩])
    (.ret))
   (.skip)))
 (.seq (.seq (.regq [
     ⟨none, some 26, .ldn 2 (.t 7)⟩,
     ⟨none, some 27, .ldn 2 (.t 2)⟩,
     ⟨none, some 28, .call n_laws_toTrain [.t 27]⟩,
     ⟨none, some 29, .call n_laws_eqTrain [.t 26, .t 28]⟩,
     ⟨none, some 30, .not (.t 29)⟩])
  (.cond (.t 30)
   (.seq (.reg [
       ⟨none, some 4, .mv (.k (.c (.b false)))⟩])
    (.ret))
   (.skip)))
 (.seq (.reg [
    ⟨none, some 4, .mv (.k (.c (.b true)))⟩])
 (.ret))))))))))
theorem h_laws_FnExactPaceOf : Has Try.prog n_laws_FnExactPaceOf 31 c_laws_FnExactPaceOf [.t 4] := ⟨by decide, Try.f14, _, Try.func14, rfl, rfl, by kernel_rfl, by kernel_rfl⟩

def c_spec_PaceOf : SC :=
 .seq (.reg [
    ⟨none, some 2, .box 2 (.t 0)⟩,
    ⟨none, some 4, .mv (.k (.c (.i 0)))⟩])
 (.seq (.seq (.reg [
     ⟨none, some 5, .ldn 2 (.t 2)⟩,
     ⟨none, some 6, .call n_spec_TrainOk [.t 5]⟩,
     ⟨none, some 7, .not (.t 6)⟩,
     ⟨none, some 8, .mv (.t 7)⟩,
     ⟨some (8, false), some 9, .mv (.t 1)⟩,
     ⟨some (8, false), some 10, .call n_spec_l01In [.t 9, .k (.c (.i 0)), .k (.c (.i 1000000000))]⟩,
     ⟨some (8, false), some 11, .not (.t 10)⟩,
     ⟨none, some 12, .pick (.t 8) (.k (.c (.b true))) (.t 11)⟩,
     ⟨none, some 13, .mv (.t 12)⟩,
     ⟨some (13, false), some 14, .mv (.t 1)⟩,
     ⟨some (13, false), some 15, .ldn 2 (.t 2)⟩,
     ⟨some (13, false), some 16, .call n_spec_DraughtOf [.t 15]⟩,
     ⟨some (13, false), some 17, .bin .lss (.t 14) (.t 16)⟩,
     ⟨none, some 18, .pick (.t 13) (.k (.c (.b true))) (.t 17)⟩])
  (.cond (.t 18)
   (.seq (.reg [
       ⟨none, some 4, .mv (.k (.c (.i 0)))⟩])
    (.ret))
   (.skip)))
 (.seq (.seq (.reg [
     ⟨none, some 19, .mv (.t 1)⟩,
     ⟨none, some 20, .bin .mul (.k (.c (.i 2))) (.t 19)⟩,
     ⟨none, some 21, .ldn 2 (.t 2)⟩,
     ⟨none, some 22, .call n_spec_DraughtOf [.t 21]⟩,
     ⟨none, some 23, .bin .mul (.k (.c (.i 3))) (.t 22)⟩,
     ⟨none, some 24, .bin .lss (.t 20) (.t 23)⟩])
  (.cond (.t 24)
   (.seq (.reg [
       ⟨none, some 25, .ldn 2 (.t 2)⟩,
       ⟨none, some 26, .call n_spec_SpeedOf [.t 25]⟩,
       ⟨none, some 27, .bin .add (.t 26) (.k (.c (.i 1)))⟩,
       ⟨none, some 28, .bin .quo (.t 27) (.k (.c (.i 2)))⟩,
       ⟨none, some 4, .mv (.t 28)⟩])
    (.ret))
   (.skip)))
 (.seq (.reg [
    ⟨none, some 29, .ldn 2 (.t 2)⟩,
    ⟨none, some 30, .call n_spec_SpeedOf [.t 29]⟩,
    ⟨none, some 4, .mv (.t 30)⟩])
 (.ret))))
theorem h_spec_PaceOf : Has Try.prog n_spec_PaceOf 31 c_spec_PaceOf [.t 4] := ⟨by decide, Try.f69, _, Try.func69, rfl, rfl, by kernel_rfl, by kernel_rfl⟩

def c_impl_PaceOf : SC :=
 .seq (.reg [
    ⟨none, some 2, .box 2 (.t 0)⟩,
    ⟨none, some 4, .mv (.k (.c (.i 0)))⟩])
 (.seq (.seq (.reg [
     ⟨none, some 5, .ldn 2 (.t 2)⟩,
     ⟨none, some 6, .call n_impl_TrainOk [.t 5]⟩,
     ⟨none, some 7, .not (.t 6)⟩,
     ⟨none, some 8, .mv (.t 7)⟩,
     ⟨some (8, false), some 9, .mv (.t 1)⟩,
     ⟨some (8, false), some 10, .call n_impl_inRange [.t 9, .k (.c (.i 0)), .k (.c (.i 1000000000))]⟩,
     ⟨some (8, false), some 11, .not (.t 10)⟩,
     ⟨none, some 12, .pick (.t 8) (.k (.c (.b true))) (.t 11)⟩,
     ⟨none, some 13, .mv (.t 12)⟩,
     ⟨some (13, false), some 14, .mv (.t 1)⟩,
     ⟨some (13, false), some 15, .ldn 2 (.t 2)⟩,
     ⟨some (13, false), some 16, .call n_impl_DraughtOf [.t 15]⟩,
     ⟨some (13, false), some 17, .bin .lss (.t 14) (.t 16)⟩,
     ⟨none, some 18, .pick (.t 13) (.k (.c (.b true))) (.t 17)⟩])
  (.cond (.t 18)
   (.seq (.reg [
       ⟨none, some 4, .mv (.k (.c (.i 0)))⟩])
    (.ret))
   (.skip)))
 (.seq (.seq (.reg [
     ⟨none, some 19, .mv (.t 1)⟩,
     ⟨none, some 20, .bin .mul (.k (.c (.i 2))) (.t 19)⟩,
     ⟨none, some 21, .ldn 2 (.t 2)⟩,
     ⟨none, some 22, .call n_impl_DraughtOf [.t 21]⟩,
     ⟨none, some 23, .bin .mul (.k (.c (.i 3))) (.t 22)⟩,
     ⟨none, some 24, .bin .lss (.t 20) (.t 23)⟩])
  (.cond (.t 24)
   (.seq (.reg [
       ⟨none, some 25, .ldn 2 (.t 2)⟩,
       ⟨none, some 26, .call n_impl_SpeedOf [.t 25]⟩,
       ⟨none, some 27, .bin .add (.t 26) (.k (.c (.i 1)))⟩,
       ⟨none, some 28, .bin .quo (.t 27) (.k (.c (.i 2)))⟩,
       ⟨none, some 4, .mv (.t 28)⟩])
    (.ret))
   (.skip)))
 (.seq (.reg [
    ⟨none, some 29, .ldn 2 (.t 2)⟩,
    ⟨none, some 30, .call n_impl_SpeedOf [.t 29]⟩,
    ⟨none, some 4, .mv (.t 30)⟩])
 (.ret))))
theorem h_impl_PaceOf : Has Try.prog n_impl_PaceOf 31 c_impl_PaceOf [.t 4] := ⟨by decide, Try.f71, _, Try.func71, rfl, rfl, by kernel_rfl, by kernel_rfl⟩

def c_spec_DraughtOf : SC :=
 .seq (.reg [
    ⟨none, some 1, .box 2 (.t 0)⟩,
    ⟨none, some 2, .mv (.k (.c (.i 0)))⟩])
 (.seq (.reg [
    ⟨none, some 3, .mv (.k (.c (.i 0)))⟩])
 (.seq (.reg [
    ⟨none, some 6, .ldn 2 (.t 1)⟩,
    ⟨none, some 7, .call n_spec_l04Boats [.t 6]⟩,
    ⟨none, some 4, .mv (.t 7)⟩])
 (.seq (.seq (.reg [
     ⟨none, some 5, .mv (.k (.c (.i 0)))⟩])
  (.block 0 (.loop (.seq (.seq (.reg [
        ⟨none, some 8, .mv (.t 5)⟩,
        ⟨none, some 9, .mv (.t 4)⟩,
        ⟨none, some 10, .len (.t 9)⟩,
        ⟨none, some 11, .bin .lss (.t 8) (.t 10)⟩,
        ⟨none, some 12, .mv (.t 11)⟩,
        ⟨some (12, true), some 13, .ldn 2 (.t 1)⟩,
        ⟨some (12, true), some 14, .call n_spec_TrainOk [.t 13]⟩,
        ⟨none, some 15, .pick (.t 12) (.t 14) (.k (.c (.b false)))⟩])
     (.cond (.t 15)
      (.skip)
      (.exit 0)))
    (.seq (.block 1 (.reg [
        ⟨none, some 18, .mv (.t 3)⟩,
        ⟨none, some 19, .mv (.t 4)⟩,
        ⟨none, some 20, .mv (.t 5)⟩,
        ⟨none, some 21, .idx 6 (.t 19) (.t 20)⟩,
        ⟨none, some 22, .fld 3 (.t 21)⟩,
        ⟨none, some 23, .ld1 (.t 22)⟩,
        ⟨none, some 24, .mx [.t 18, .t 23]⟩,
        ⟨none, some 3, .mv (.t 24)⟩]))
    (.reg [
      ⟨none, some 16, .mv (.t 5)⟩,
      ⟨none, some 17, .bin .add (.t 16) (.k (.c (.i 1)))⟩,
      ⟨none, some 5, .mv (.t 17)⟩]))))))
 (.seq (.reg [
    ⟨none, some 25, .mv (.t 3)⟩,
    ⟨none, some 2, .mv (.t 25)⟩])
 (.ret)))))
theorem h_spec_DraughtOf : Has Try.prog n_spec_DraughtOf 26 c_spec_DraughtOf [.t 2] := ⟨by decide, Try.f85, _, Try.func85, rfl, rfl, by kernel_rfl, by kernel_rfl⟩

def c_spec_SpeedOf : SC :=
 .seq (.reg [
    ⟨none, some 1, .box 2 (.t 0)⟩,
    ⟨none, some 2, .mv (.k (.c (.i 0)))⟩])
 (.seq (.reg [
    ⟨none, some 6, .ldn 2 (.t 1)⟩,
    ⟨none, some 7, .call n_spec_l04Boats [.t 6]⟩,
    ⟨none, some 3, .mv (.t 7)⟩])
 (.seq (.seq (.reg [
     ⟨none, some 8, .ldn 2 (.t 1)⟩,
     ⟨none, some 9, .call n_spec_TrainOk [.t 8]⟩,
     ⟨none, some 10, .not (.t 9)⟩])
  (.cond (.t 10)
   (.seq (.reg [
       ⟨none, some 2, .mv (.k (.c (.i 0)))⟩])
    (.ret))
   (.skip)))
 (.seq (.reg [
    ⟨none, some 11, .mv (.t 3)⟩,
    ⟨none, some 12, .idx 6 (.t 11) (.k (.c (.i 0)))⟩,
    ⟨none, some 13, .fld 4 (.t 12)⟩,
    ⟨none, some 14, .ld1 (.t 13)⟩,
    ⟨none, some 4, .mv (.t 14)⟩])
 (.seq (.seq (.reg [
     ⟨none, some 5, .mv (.k (.c (.i 0)))⟩])
  (.block 0 (.loop (.seq (.seq (.reg [
        ⟨none, some 15, .mv (.t 5)⟩,
        ⟨none, some 16, .mv (.t 3)⟩,
        ⟨none, some 17, .len (.t 16)⟩,
        ⟨none, some 18, .bin .lss (.t 15) (.t 17)⟩])
     (.cond (.t 18)
      (.skip)
      (.exit 0)))
    (.seq (.block 1 (.reg [
        ⟨none, some 21, .mv (.t 4)⟩,
        ⟨none, some 22, .mv (.t 3)⟩,
        ⟨none, some 23, .mv (.t 5)⟩,
        ⟨none, some 24, .idx 6 (.t 22) (.t 23)⟩,
        ⟨none, some 25, .fld 4 (.t 24)⟩,
        ⟨none, some 26, .ld1 (.t 25)⟩,
        ⟨none, some 27, .mn [.t 21, .t 26]⟩,
        ⟨none, some 4, .mv (.t 27)⟩]))
    (.reg [
      ⟨none, some 19, .mv (.t 5)⟩,
      ⟨none, some 20, .bin .add (.t 19) (.k (.c (.i 1)))⟩,
      ⟨none, some 5, .mv (.t 20)⟩]))))))
 (.seq (.reg [
    ⟨none, some 28, .mv (.t 4)⟩,
    ⟨none, some 2, .mv (.t 28)⟩])
 (.ret))))))
theorem h_spec_SpeedOf : Has Try.prog n_spec_SpeedOf 29 c_spec_SpeedOf [.t 2] := ⟨by decide, Try.f88, _, Try.func88, rfl, rfl, by kernel_rfl, by kernel_rfl⟩

def c_impl_DraughtOf : SC :=
 .seq (.reg [
    ⟨none, some 1, .box 2 (.t 0)⟩,
    ⟨none, some 2, .mv (.k (.c (.i 0)))⟩])
 (.seq (.seq (.reg [
     ⟨none, some 6, .ldn 2 (.t 1)⟩,
     ⟨none, some 7, .call n_impl_TrainOk [.t 6]⟩,
     ⟨none, some 8, .not (.t 7)⟩])
  (.cond (.t 8)
   (.seq (.reg [
       ⟨none, some 2, .mv (.k (.c (.i 0)))⟩])
    (.ret))
   (.skip)))
 (.seq (.reg [
    ⟨none, some 3, .mv (.k (.c (.i 0)))⟩])
 (.seq (.seq (.reg [
     ⟨none, some 9, .ldn 2 (.t 1)⟩,
     ⟨none, some 10, .call n_impl_boatsOf [.t 9]⟩,
     ⟨none, some 11, .len (.t 10)⟩,
     ⟨none, some 12, .mv (.k (.c (.i 0)))⟩])
  (.block 0 (.loop (.seq (.reg [
       ⟨none, some 13, .bin .lss (.t 12) (.t 11)⟩])
    (.seq (.cond (.t 13)
      (.skip)
      (.exit 0))
    (.seq (.block 1 (.seq (.reg [
         ⟨none, some 14, .idx 6 (.t 10) (.t 12)⟩,
         ⟨none, some 15, .ldn 6 (.t 14)⟩,
         ⟨none, some 5, .alloc [.c (.i 0), .c (.i 0), .c (.i 0), .c (.i 0), .c (.i 0), .c (.i 0)]⟩,
         ⟨none, none, .stn 6 (.t 5) (.t 15)⟩])
      (.reg [
        ⟨none, some 16, .mv (.t 3)⟩,
        ⟨none, some 17, .fld 3 (.t 5)⟩,
        ⟨none, some 18, .ld1 (.t 17)⟩,
        ⟨none, some 19, .mx [.t 16, .t 18]⟩,
        ⟨none, some 3, .mv (.t 19)⟩])))
    (.reg [
      ⟨none, some 20, .bin .add (.t 12) (.k (.c (.i 1)))⟩,
      ⟨none, some 12, .mv (.t 20)⟩])))))))
 (.seq (.reg [
    ⟨none, some 21, .mv (.t 3)⟩,
    ⟨none, some 2, .mv (.t 21)⟩])
 (.ret)))))
theorem h_impl_DraughtOf : Has Try.prog n_impl_DraughtOf 22 c_impl_DraughtOf [.t 2] := ⟨by decide, Try.f135, _, Try.func135, rfl, rfl, by kernel_rfl, by kernel_rfl⟩

end Go.Proofs.Ytfmgadchjiplmaa
