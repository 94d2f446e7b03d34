/- Functions of this seat in the small language, written by a program (GenCode) out of the translation; each is held against the translation by the kernel. -/
import Derived.Test.YtfmgadchjiplmaaMNames
import Derived.KernelRfl
set_option linter.all false
namespace Go.Proofs.Ytfmgadchjiplmaa
open Go.RowKit

def c_spec_ClassOf : SC :=
 .seq (.reg [
    ⟨none, some 1, .box 2 (.t 0)⟩,
    ⟨none, some 2, .mv (.k (.c (.i 0)))⟩])
 (.seq (.reg [
    ⟨none, some 6, .ldn 2 (.t 1)⟩,
    ⟨none, some 7, .call n_spec_l04Boats [.t 6]⟩,
    ⟨none, some 3, .mv (.t 7)⟩])
 (.seq (.seq (.reg [
     ⟨none, some 8, .ldn 2 (.t 1)⟩,
     ⟨none, some 9, .call n_spec_TrainOk [.t 8]⟩,
     ⟨none, some 10, .not (.t 9)⟩])
  (.cond (.t 10)
   (.seq (.reg [
       ⟨none, some 2, .mv (.k (.c (.i (-1))))⟩])
    (.ret))
   (.skip)))
 (.seq (.reg [
    ⟨none, some 11, .mv (.t 3)⟩,
    ⟨none, some 12, .idx 6 (.t 11) (.k (.c (.i 0)))⟩,
    ⟨none, some 13, .fld 5 (.t 12)⟩,
    ⟨none, some 14, .ld1 (.t 13)⟩,
    ⟨none, some 4, .mv (.t 14)⟩])
 (.seq (.seq (.reg [
     ⟨none, some 5, .mv (.k (.c (.i 0)))⟩])
  (.block 0 (.loop (.seq (.seq (.reg [
        ⟨none, some 15, .mv (.t 5)⟩,
        ⟨none, some 16, .mv (.t 3)⟩,
        ⟨none, some 17, .len (.t 16)⟩,
        ⟨none, some 18, .bin .lss (.t 15) (.t 17)⟩])
     (.cond (.t 18)
      (.skip)
      (.exit 0)))
    (.seq (.block 1 (.reg [
        ⟨none, some 21, .mv (.t 4)⟩,
        ⟨none, some 22, .mv (.t 3)⟩,
        ⟨none, some 23, .mv (.t 5)⟩,
        ⟨none, some 24, .idx 6 (.t 22) (.t 23)⟩,
        ⟨none, some 25, .fld 5 (.t 24)⟩,
        ⟨none, some 26, .ld1 (.t 25)⟩,
        ⟨none, some 27, .mn [.t 21, .t 26]⟩,
        ⟨none, some 4, .mv (.t 27)⟩]))
    (.reg [
      ⟨none, some 19, .mv (.t 5)⟩,
      ⟨none, some 20, .bin .add (.t 19) (.k (.c (.i 1)))⟩,
      ⟨none, some 5, .mv (.t 20)⟩]))))))
 (.seq (.reg [
    ⟨none, some 28, .mv (.t 4)⟩,
    ⟨none, some 2, .mv (.t 28)⟩])
 (.ret))))))
theorem h_spec_ClassOf : Has Try.prog n_spec_ClassOf 29 c_spec_ClassOf [.t 2] := ⟨by decide, Try.f147, _, Try.func147, rfl, rfl, by kernel_rfl, by kernel_rfl⟩

def c_impl_LengthOf : SC :=
 .seq (.reg [
    ⟨none, some 1, .box 2 (.t 0)⟩,
    ⟨none, some 2, .mv (.k (.c (.i 0)))⟩])
 (.seq (.seq (.reg [
     ⟨none, some 9, .ldn 2 (.t 1)⟩,
     ⟨none, some 10, .call n_impl_TrainOk [.t 9]⟩,
     ⟨none, some 11, .not (.t 10)⟩])
  (.cond (.t 11)
   (.seq (.reg [
       ⟨none, some 2, .mv (.k (.c (.i 0)))⟩])
    (.ret))
   (.skip)))
 (.seq (.reg [
    ⟨none, some 3, .mv (.k (.c (.i 0)))⟩])
 (.seq (.seq (.reg [
     ⟨none, some 12, .fld 1 (.t 1)⟩,
     ⟨none, some 13, .ld1 (.t 12)⟩,
     ⟨none, some 14, .len (.t 13)⟩,
     ⟨none, some 15, .mv (.k (.c (.i 0)))⟩])
  (.block 0 (.loop (.seq (.reg [
       ⟨none, some 16, .bin .lss (.t 15) (.t 14)⟩])
    (.seq (.cond (.t 16)
      (.skip)
      (.exit 0))
    (.seq (.block 1 (.seq (.reg [
         ⟨none, some 17, .idx 1 (.t 13) (.t 15)⟩,
         ⟨none, some 18, .ld1 (.t 17)⟩,
         ⟨none, some 5, .mv (.t 18)⟩])
      (.seq (.reg [
         ⟨none, some 6, .mv (.k (.c (.i 0)))⟩])
      (.seq (.seq (.reg [
          ⟨none, some 19, .mv (.t 5)⟩,
          ⟨none, some 20, .len (.t 19)⟩,
          ⟨none, some 21, .mv (.k (.c (.i 0)))⟩])
       (.block 2 (.loop (.seq (.reg [
            ⟨none, some 22, .bin .lss (.t 21) (.t 20)⟩])
         (.seq (.cond (.t 22)
           (.skip)
           (.exit 2))
         (.seq (.block 3 (.seq (.reg [
              ⟨none, some 23, .idx 6 (.t 19) (.t 21)⟩,
              ⟨none, some 24, .ldn 6 (.t 23)⟩,
              ⟨none, some 8, .alloc [.c (.i 0), .c (.i 0), .c (.i 0), .c (.i 0), .c (.i 0), .c (.i 0)]⟩,
              ⟨none, none, .stn 6 (.t 8) (.t 24)⟩])
           (.reg [
             ⟨none, some 25, .mv (.t 6)⟩,
             ⟨none, some 26, .fld 1 (.t 8)⟩,
             ⟨none, some 27, .ld1 (.t 26)⟩,
             ⟨none, some 28, .mx [.t 25, .t 27]⟩,
             ⟨none, some 6, .mv (.t 28)⟩])))
         (.reg [
           ⟨none, some 29, .bin .add (.t 21) (.k (.c (.i 1)))⟩,
           ⟨none, some 21, .mv (.t 29)⟩])))))))
      (.reg [
        ⟨none, some 30, .mv (.t 3)⟩,
        ⟨none, some 31, .mv (.t 6)⟩,
        ⟨none, some 32, .bin .add (.t 30) (.t 31)⟩,
        ⟨none, some 3, .mv (.t 32)⟩])))))
    (.reg [
      ⟨none, some 33, .bin .add (.t 15) (.k (.c (.i 1)))⟩,
      ⟨none, some 15, .mv (.t 33)⟩])))))))
 (.seq (.reg [
    ⟨none, some 34, .mv (.t 3)⟩,
    ⟨none, some 2, .mv (.t 34)⟩])
 (.ret)))))
theorem h_impl_LengthOf : Has Try.prog n_impl_LengthOf 35 c_impl_LengthOf [.t 2] := ⟨by decide, Try.f148, _, Try.func148, rfl, rfl, by kernel_rfl, by kernel_rfl⟩

def c_impl_WidthOf : SC :=
 .seq (.reg [
    ⟨none, some 1, .box 2 (.t 0)⟩,
    ⟨none, some 2, .mv (.k (.c (.i 0)))⟩])
 (.seq (.seq (.reg [
     ⟨none, some 9, .ldn 2 (.t 1)⟩,
     ⟨none, some 10, .call n_impl_TrainOk [.t 9]⟩,
     ⟨none, some 11, .not (.t 10)⟩])
  (.cond (.t 11)
   (.seq (.reg [
       ⟨none, some 2, .mv (.k (.c (.i 0)))⟩])
    (.ret))
   (.skip)))
 (.seq (.reg [
    ⟨none, some 3, .mv (.k (.c (.i 0)))⟩])
 (.seq (.seq (.reg [
     ⟨none, some 12, .fld 1 (.t 1)⟩,
     ⟨none, some 13, .ld1 (.t 12)⟩,
     ⟨none, some 14, .len (.t 13)⟩,
     ⟨none, some 15, .mv (.k (.c (.i 0)))⟩])
  (.block 0 (.loop (.seq (.reg [
       ⟨none, some 16, .bin .lss (.t 15) (.t 14)⟩])
    (.seq (.cond (.t 16)
      (.skip)
      (.exit 0))
    (.seq (.block 1 (.seq (.reg [
         ⟨none, some 17, .idx 1 (.t 13) (.t 15)⟩,
         ⟨none, some 18, .ld1 (.t 17)⟩,
         ⟨none, some 5, .mv (.t 18)⟩])
      (.seq (.reg [
         ⟨none, some 6, .mv (.k (.c (.i 0)))⟩])
      (.seq (.seq (.reg [
          ⟨none, some 19, .mv (.t 5)⟩,
          ⟨none, some 20, .len (.t 19)⟩,
          ⟨none, some 21, .mv (.k (.c (.i 0)))⟩])
       (.block 2 (.loop (.seq (.reg [
            ⟨none, some 22, .bin .lss (.t 21) (.t 20)⟩])
         (.seq (.cond (.t 22)
           (.skip)
           (.exit 2))
         (.seq (.block 3 (.seq (.reg [
              ⟨none, some 23, .idx 6 (.t 19) (.t 21)⟩,
              ⟨none, some 24, .ldn 6 (.t 23)⟩,
              ⟨none, some 8, .alloc [.c (.i 0), .c (.i 0), .c (.i 0), .c (.i 0), .c (.i 0), .c (.i 0)]⟩,
              ⟨none, none, .stn 6 (.t 8) (.t 24)⟩])
           (.reg [
             ⟨none, some 25, .mv (.t 6)⟩,
             ⟨none, some 26, .fld 2 (.t 8)⟩,
             ⟨none, some 27, .ld1 (.t 26)⟩,
             ⟨none, some 28, .bin .add (.t 25) (.t 27)⟩,
             ⟨none, some 6, .mv (.t 28)⟩])))
         (.reg [
           ⟨none, some 29, .bin .add (.t 21) (.k (.c (.i 1)))⟩,
           ⟨none, some 21, .mv (.t 29)⟩])))))))
      (.reg [
        ⟨none, some 30, .mv (.t 3)⟩,
        ⟨none, some 31, .mv (.t 6)⟩,
        ⟨none, some 32, .mx [.t 30, .t 31]⟩,
        ⟨none, some 3, .mv (.t 32)⟩])))))
    (.reg [
      ⟨none, some 33, .bin .add (.t 15) (.k (.c (.i 1)))⟩,
      ⟨none, some 15, .mv (.t 33)⟩])))))))
 (.seq (.reg [
    ⟨none, some 34, .mv (.t 3)⟩,
    ⟨none, some 2, .mv (.t 34)⟩])
 (.ret)))))
theorem h_impl_WidthOf : Has Try.prog n_impl_WidthOf 35 c_impl_WidthOf [.t 2] := ⟨by decide, Try.f149, _, Try.func149, rfl, rfl, by kernel_rfl, by kernel_rfl⟩

def c_laws_FnExactNextSide : SC :=
 .seq (.reg [
    ⟨none, some 4, .box 2 (.t 1)⟩,
    ⟨none, some 6, .mv (.k (.c (.b false)))⟩])
 (.seq (.reg [
    ⟨none, some 7, .mv (.k (.c (.i 1048576)))⟩])
 (.seq (.reg [
    ⟨none, some 13, .mv (.t 0)⟩,
    ⟨none, some 14, .mv (.t 7)⟩,
    ⟨none, some 15, .call n_laws_szCallS [.t 13, .t 14]⟩,
    ⟨none, some 7, .mv (.t 15)⟩])
 (.seq (.seq (.reg [
     ⟨none, some 16, .mv (.t 7)⟩,
     ⟨none, some 17, .bin .lss (.t 16) (.k (.c (.i 0)))⟩])
  (.cond (.t 17)
   (.seq (.reg [
       ⟨none, some 6, .mv (.k (.c (.b true)))⟩])
    (.ret))
   (.skip)))
 (.seq (.regq [
    ⟨none, some 19, .mv (.t 0)⟩,
    ⟨none, some 20, .call n_laws_toCallS [.t 19]⟩,
    ⟨none, some 21, .ldn 2 (.t 4)⟩,
    ⟨none, some 22, .call n_laws_toTurn [.t 21]⟩,
    ⟨none, some 23, .mv (.t 2)⟩,
    ⟨none, some 24, .call n_spec_NextSide [.t 20, .t 22, .t 23]⟩,
    ⟨none, some 18, .mv (.t 24)⟩,
    ⟨none, some 25, .ext 0 (.t 18)⟩,
    ⟨none, some 26, .ext 1 (.t 18)⟩,
    ⟨none, some 8, .mv (.t 25)⟩,
    ⟨none, some 9, .mv (.t 26)⟩])
 (.seq (.reg [
    ⟨none, some 27, .mv (.t 0)⟩,
    ⟨none, some 28, .call n_laws_toCallS [.t 27]⟩,
    ⟨none, some 10, .mv (.t 28)⟩])
 (.seq (.reg [
    ⟨none, some 30, .mv (.t 10)⟩,
    ⟨none, some 31, .ldn 2 (.t 4)⟩,
    ⟨none, some 32, .call n_laws_toTurn [.t 31]⟩,
    ⟨none, some 33, .mv (.t 2)⟩,
    ⟨none, some 34, .call n_impl_NextSide [.t 30, .t 32, .t 33]⟩,
    ⟨none, some 29, .mv (.t 34)⟩,
    ⟨none, some 35, .ext 0 (.t 29)⟩,
    ⟨none, some 36, .ext 1 (.t 29)⟩,
    ⟨none, some 11, .mv (.t 35)⟩,
    ⟨none, some 12, .mv (.t 36)⟩])
 (.seq (.seq (.reg [
     ⟨none, some 37, .mv (.t 11)⟩,
     ⟨none, some 38, .mv (.t 8)⟩,
     ⟨none, some 39, .beq true (.t 37) (.t 38)⟩,
     ⟨none, some 40, .mv (.t 39)⟩,
     ⟨some (40, false), some 41, .mv (.t 12)⟩,
     ⟨some (40, false), some 42, .mv (.t 9)⟩,
     ⟨some (40, false), some 43, .beq true (.t 41) (.t 42)⟩,
     ⟨none, some 44, .pick (.t 40) (.k (.c (.b true))) (.t 43)⟩])
  (.cond (.t 44)
   (.seq (.reg [
       ⟨none, some 6, .mv (.k (.c (.b false)))⟩])
    (.ret))
   (.skip)))
 (.seq (.seq (.reg [
     ⟨none, some 45, .mv (.t 10)⟩,
     ⟨none, some 46, .mv (.t 0)⟩,
     ⟨none, some 47, .call n_laws_toCallS [.t 46]⟩,
     ⟨none, some 48, .call n_laws_eqCallS [.t 45, .t 47]⟩,
     ⟨none, some 49, .not (.t 48)⟩])
  (.cond (.t 49)
   (.seq (.reg [
       ⟨none, some 6, .mv (.k (.c (.b false)))⟩])
    (.ret))
   (.skip)))
 (.seq (.reg [
    ⟨none, some 6, .mv (.k (.c (.b true)))⟩])
 (.ret))))))))))
theorem h_laws_FnExactNextSide : Has Try.prog n_laws_FnExactNextSide 50 c_laws_FnExactNextSide [.t 6] := ⟨by decide, Try.f19, _, Try.func19, rfl, rfl, by kernel_rfl, by kernel_rfl⟩

def c_spec_IdsOf : SC :=
 .seq (.reg [
    ⟨none, some 1, .box 2 (.t 0)⟩,
    ⟨none, some 2, .mv (.k (.nil 1))⟩])
 (.seq (.reg [
    ⟨none, some 6, .bsl 1 []⟩,
    ⟨none, some 3, .mv (.t 6)⟩])
 (.seq (.reg [
    ⟨none, some 7, .ldn 2 (.t 1)⟩,
    ⟨none, some 8, .call n_spec_l04Boats [.t 7]⟩,
    ⟨none, some 4, .mv (.t 8)⟩])
 (.seq (.seq (.reg [
     ⟨none, some 5, .mv (.k (.c (.i 0)))⟩])
  (.block 0 (.loop (.seq (.seq (.reg [
        ⟨none, some 9, .mv (.t 5)⟩,
        ⟨none, some 10, .mv (.t 4)⟩,
        ⟨none, some 11, .len (.t 10)⟩,
        ⟨none, some 12, .bin .lss (.t 9) (.t 11)⟩,
        ⟨none, some 13, .mv (.t 12)⟩,
        ⟨some (13, true), some 14, .ldn 2 (.t 1)⟩,
        ⟨some (13, true), some 15, .call n_spec_TrainOk [.t 14]⟩,
        ⟨none, some 16, .pick (.t 13) (.t 15) (.k (.c (.b false)))⟩])
     (.cond (.t 16)
      (.skip)
      (.exit 0)))
    (.seq (.block 1 (.reg [
        ⟨none, some 19, .mv (.t 3)⟩,
        ⟨none, some 20, .mv (.t 4)⟩,
        ⟨none, some 21, .mv (.t 5)⟩,
        ⟨none, some 22, .idx 6 (.t 20) (.t 21)⟩,
        ⟨none, some 23, .fld 0 (.t 22)⟩,
        ⟨none, some 24, .ld1 (.t 23)⟩,
        ⟨none, some 25, .bsl 1 [.t 24]⟩,
        ⟨none, some 26, .app 1 8 (.t 19) (.t 25)⟩,
        ⟨none, some 3, .mv (.t 26)⟩]))
    (.reg [
      ⟨none, some 17, .mv (.t 5)⟩,
      ⟨none, some 18, .bin .add (.t 17) (.k (.c (.i 1)))⟩,
      ⟨none, some 5, .mv (.t 18)⟩]))))))
 (.seq (.reg [
    ⟨none, some 27, .mv (.t 3)⟩,
    ⟨none, some 2, .mv (.t 27)⟩])
 (.ret)))))
theorem h_spec_IdsOf : Has Try.prog n_spec_IdsOf 28 c_spec_IdsOf [.t 2] := ⟨by decide, Try.f91, _, Try.func91, rfl, rfl, by kernel_rfl, by kernel_rfl⟩

def c_laws_szCallS : SC :=
 .seq (.reg [
    ⟨none, some 4, .mv (.k (.c (.i 0)))⟩])
 (.seq (.reg [
    ⟨none, some 6, .mv (.t 1)⟩,
    ⟨none, some 7, .mv (.t 0)⟩,
    ⟨none, some 8, .len (.t 7)⟩,
    ⟨none, some 9, .bin .sub (.t 6) (.t 8)⟩,
    ⟨none, some 1, .mv (.t 9)⟩])
 (.seq (.seq (.reg [
     ⟨none, some 10, .mv (.t 1)⟩,
     ⟨none, some 11, .bin .lss (.t 10) (.k (.c (.i 0)))⟩])
  (.cond (.t 11)
   (.seq (.reg [
       ⟨none, some 4, .mv (.k (.c (.i (-1))))⟩])
    (.ret))
   (.skip)))
 (.seq (.seq (.reg [
     ⟨none, some 5, .mv (.k (.c (.i 0)))⟩])
  (.block 0 (.loop (.seq (.seq (.reg [
        ⟨none, some 12, .mv (.t 5)⟩,
        ⟨none, some 13, .mv (.t 0)⟩,
        ⟨none, some 14, .len (.t 13)⟩,
        ⟨none, some 15, .bin .lss (.t 12) (.t 14)⟩])
     (.cond (.t 15)
      (.skip)
      (.exit 0)))
    (.seq (.block 1 (.seq (.reg [
         ⟨none, some 18, .mv (.t 0)⟩,
         ⟨none, some 19, .mv (.t 5)⟩,
         ⟨none, some 20, .idx 4 (.t 18) (.t 19)⟩,
         ⟨none, some 21, .ldn 4 (.t 20)⟩,
         ⟨none, some 22, .mv (.t 1)⟩,
         ⟨none, some 23, .call n_laws_szCall [.t 21, .t 22]⟩,
         ⟨none, some 1, .mv (.t 23)⟩])
      (.seq (.reg [
         ⟨none, some 24, .mv (.t 1)⟩,
         ⟨none, some 25, .bin .lss (.t 24) (.k (.c (.i 0)))⟩])
      (.cond (.t 25)
       (.seq (.reg [
           ⟨none, some 4, .mv (.k (.c (.i (-1))))⟩])
        (.ret))
       (.skip)))))
    (.reg [
      ⟨none, some 16, .mv (.t 5)⟩,
      ⟨none, some 17, .bin .add (.t 16) (.k (.c (.i 1)))⟩,
      ⟨none, some 5, .mv (.t 17)⟩]))))))
 (.seq (.reg [
    ⟨none, some 26, .mv (.t 1)⟩,
    ⟨none, some 4, .mv (.t 26)⟩])
 (.ret)))))
theorem h_laws_szCallS : Has Try.prog n_laws_szCallS 27 c_laws_szCallS [.t 4] := ⟨by decide, Try.f92, _, Try.func92, rfl, rfl, by kernel_rfl, by kernel_rfl⟩

def c_spec_NextSide : SC :=
 .seq (.reg [
    ⟨none, some 4, .box 2 (.t 1)⟩,
    ⟨none, some 6, .mv (.k (.c (.b false)))⟩,
    ⟨none, some 7, .mv (.k (.c (.b false)))⟩])
 (.seq (.reg [
    ⟨none, some 11, .mv (.t 0)⟩,
    ⟨none, some 12, .mv (.t 2)⟩,
    ⟨none, some 13, .call n_spec_OrderCalls [.t 11, .t 12]⟩,
    ⟨none, some 8, .mv (.t 13)⟩])
 (.seq (.seq (.reg [
     ⟨none, some 14, .mv (.t 8)⟩,
     ⟨none, some 15, .len (.t 14)⟩,
     ⟨none, some 16, .bin .eql (.t 15) (.k (.c (.i 0)))⟩,
     ⟨none, some 17, .mv (.t 16)⟩,
     ⟨some (17, false), some 18, .ldn 2 (.t 4)⟩,
     ⟨some (17, false), some 19, .call n_spec_TurnOk [.t 18]⟩,
     ⟨some (17, false), some 20, .not (.t 19)⟩,
     ⟨none, some 21, .pick (.t 17) (.k (.c (.b true))) (.t 20)⟩])
  (.cond (.t 21)
   (.seq (.reg [
       ⟨none, some 6, .mv (.k (.c (.b false)))⟩,
       ⟨none, some 7, .mv (.k (.c (.b false)))⟩])
    (.ret))
   (.skip)))
 (.seq (.reg [
    ⟨none, some 22, .mv (.t 0)⟩,
    ⟨none, some 23, .mv (.t 8)⟩,
    ⟨none, some 24, .idx 1 (.t 23) (.k (.c (.i 0)))⟩,
    ⟨none, some 25, .ld1 (.t 24)⟩,
    ⟨none, some 26, .idx 4 (.t 22) (.t 25)⟩,
    ⟨none, some 27, .fld 0 (.t 26)⟩,
    ⟨none, some 28, .fld 0 (.t 27)⟩,
    ⟨none, some 29, .ld1 (.t 28)⟩,
    ⟨none, some 9, .mv (.t 29)⟩])
 (.seq (.seq (.reg [
     ⟨none, some 30, .mv (.t 9)⟩,
     ⟨none, some 31, .fld 0 (.t 4)⟩,
     ⟨none, some 32, .ld1 (.t 31)⟩,
     ⟨none, some 33, .beq true (.t 30) (.t 32)⟩,
     ⟨none, some 34, .mv (.t 33)⟩,
     ⟨some (34, false), some 35, .fld 1 (.t 4)⟩,
     ⟨some (34, false), some 36, .ld1 (.t 35)⟩,
     ⟨some (34, false), some 37, .bin .lss (.t 36) (.k (.c (.i 3)))⟩,
     ⟨none, some 38, .pick (.t 34) (.k (.c (.b true))) (.t 37)⟩])
  (.cond (.t 38)
   (.seq (.reg [
       ⟨none, some 39, .mv (.t 9)⟩,
       ⟨none, some 6, .mv (.t 39)⟩,
       ⟨none, some 7, .mv (.k (.c (.b true)))⟩])
    (.ret))
   (.skip)))
 (.seq (.seq (.reg [
     ⟨none, some 10, .mv (.k (.c (.i 0)))⟩])
  (.block 0 (.loop (.seq (.seq (.reg [
        ⟨none, some 40, .mv (.t 10)⟩,
        ⟨none, some 41, .mv (.t 8)⟩,
        ⟨none, some 42, .len (.t 41)⟩,
        ⟨none, some 43, .bin .lss (.t 40) (.t 42)⟩])
     (.cond (.t 43)
      (.skip)
      (.exit 0)))
    (.seq (.block 1 (.seq (.reg [
         ⟨none, some 46, .mv (.t 0)⟩,
         ⟨none, some 47, .mv (.t 8)⟩,
         ⟨none, some 48, .mv (.t 10)⟩,
         ⟨none, some 49, .idx 1 (.t 47) (.t 48)⟩,
         ⟨none, some 50, .ld1 (.t 49)⟩,
         ⟨none, some 51, .idx 4 (.t 46) (.t 50)⟩,
         ⟨none, some 52, .fld 0 (.t 51)⟩,
         ⟨none, some 53, .fld 0 (.t 52)⟩,
         ⟨none, some 54, .ld1 (.t 53)⟩,
         ⟨none, some 55, .mv (.t 9)⟩,
         ⟨none, some 56, .beq true (.t 54) (.t 55)⟩])
      (.cond (.t 56)
       (.seq (.reg [
           ⟨none, some 57, .mv (.t 9)⟩,
           ⟨none, some 58, .not (.t 57)⟩,
           ⟨none, some 6, .mv (.t 58)⟩,
           ⟨none, some 7, .mv (.k (.c (.b true)))⟩])
        (.ret))
       (.skip))))
    (.reg [
      ⟨none, some 44, .mv (.t 10)⟩,
      ⟨none, some 45, .bin .add (.t 44) (.k (.c (.i 1)))⟩,
      ⟨none, some 10, .mv (.t 45)⟩]))))))
 (.seq (.reg [
    ⟨none, some 59, .mv (.t 9)⟩,
    ⟨none, some 6, .mv (.t 59)⟩,
    ⟨none, some 7, .mv (.k (.c (.b true)))⟩])
 (.ret)))))))
theorem h_spec_NextSide : Has Try.prog n_spec_NextSide 60 c_spec_NextSide [.t 6, .t 7] := ⟨by decide, Try.f93, _, Try.func93, rfl, rfl, by kernel_rfl, by kernel_rfl⟩

def c_laws_toCallS : SC :=
 .seq (.reg [
    ⟨none, some 2, .mv (.k (.nil 4))⟩])
 (.seq (.reg [
    ⟨none, some 5, .mv (.t 0)⟩,
    ⟨none, some 6, .len (.t 5)⟩,
    ⟨none, some 7, .mks 4 48 [.b false, .sl 1 [], .i 0, .i 0] (.t 6) (.t 6)⟩,
    ⟨none, some 3, .mv (.t 7)⟩])
 (.seq (.seq (.reg [
     ⟨none, some 4, .mv (.k (.c (.i 0)))⟩])
  (.block 0 (.loop (.seq (.seq (.reg [
        ⟨none, some 8, .mv (.t 4)⟩,
        ⟨none, some 9, .mv (.t 0)⟩,
        ⟨none, some 10, .len (.t 9)⟩,
        ⟨none, some 11, .bin .lss (.t 8) (.t 10)⟩])
     (.cond (.t 11)
      (.skip)
      (.exit 0)))
    (.seq (.block 1 (.reg [
        ⟨none, some 14, .mv (.t 3)⟩,
        ⟨none, some 15, .mv (.t 4)⟩,
        ⟨none, some 16, .mv (.t 0)⟩,
        ⟨none, some 17, .mv (.t 4)⟩,
        ⟨none, some 18, .idx 4 (.t 16) (.t 17)⟩,
        ⟨none, some 19, .ldn 4 (.t 18)⟩,
        ⟨none, some 20, .call n_laws_toCall [.t 19]⟩,
        ⟨none, some 21, .idx 4 (.t 14) (.t 15)⟩,
        ⟨none, none, .stn 4 (.t 21) (.t 20)⟩]))
    (.reg [
      ⟨none, some 12, .mv (.t 4)⟩,
      ⟨none, some 13, .bin .add (.t 12) (.k (.c (.i 1)))⟩,
      ⟨none, some 4, .mv (.t 13)⟩]))))))
 (.seq (.reg [
    ⟨none, some 22, .mv (.t 3)⟩,
    ⟨none, some 2, .mv (.t 22)⟩])
 (.ret))))
theorem h_laws_toCallS : Has Try.prog n_laws_toCallS 23 c_laws_toCallS [.t 2] := ⟨by decide, Try.f94, _, Try.func94, rfl, rfl, by kernel_rfl, by kernel_rfl⟩

def c_laws_toTurn : SC :=
 .seq (.reg [
    ⟨none, some 1, .box 2 (.t 0)⟩,
    ⟨none, some 2, .alloc [.c (.b false), .c (.i 0)]⟩])
 (.seq (.reg [
    ⟨none, some 3, .alloc [.c (.b false), .c (.i 0)]⟩])
 (.seq (.reg [
    ⟨none, some 4, .fld 0 (.t 1)⟩,
    ⟨none, some 5, .ld1 (.t 4)⟩,
    ⟨none, some 6, .fld 0 (.t 3)⟩,
    ⟨none, none, .st1 (.t 6) (.t 5)⟩])
 (.seq (.reg [
    ⟨none, some 7, .fld 1 (.t 1)⟩,
    ⟨none, some 8, .ld1 (.t 7)⟩,
    ⟨none, some 9, .fld 1 (.t 3)⟩,
    ⟨none, none, .st1 (.t 9) (.t 8)⟩])
 (.seq (.reg [
    ⟨none, some 10, .ldn 2 (.t 3)⟩,
    ⟨none, none, .stn 2 (.t 2) (.t 10)⟩])
 (.ret)))))
theorem h_laws_toTurn : Has Try.prog n_laws_toTurn 11 c_laws_toTurn [.cl 2 2] := ⟨by decide, Try.f95, _, Try.func95, rfl, rfl, by kernel_rfl, by kernel_rfl⟩

def c_laws_eqCallS : SC :=
 .seq (.reg [
    ⟨none, some 4, .mv (.k (.c (.b false)))⟩])
 (.seq (.seq (.reg [
     ⟨none, some 6, .mv (.t 0)⟩,
     ⟨none, some 7, .len (.t 6)⟩,
     ⟨none, some 8, .mv (.t 1)⟩,
     ⟨none, some 9, .len (.t 8)⟩,
     ⟨none, some 10, .bin .neq (.t 7) (.t 9)⟩])
  (.cond (.t 10)
   (.seq (.reg [
       ⟨none, some 4, .mv (.k (.c (.b false)))⟩])
    (.ret))
   (.skip)))
 (.seq (.seq (.reg [
     ⟨none, some 5, .mv (.k (.c (.i 0)))⟩])
  (.block 0 (.loop (.seq (.seq (.reg [
        ⟨none, some 11, .mv (.t 5)⟩,
        ⟨none, some 12, .mv (.t 0)⟩,
        ⟨none, some 13, .len (.t 12)⟩,
        ⟨none, some 14, .bin .lss (.t 11) (.t 13)⟩])
     (.cond (.t 14)
      (.skip)
      (.exit 0)))
    (.seq (.block 1 (.seq (.regq [
         ⟨none, some 17, .mv (.t 0)⟩,
         ⟨none, some 18, .mv (.t 5)⟩,
         ⟨none, some 19, .idx 4 (.t 17) (.t 18)⟩,
         ⟨none, some 20, .ldn 4 (.t 19)⟩,
         ⟨none, some 21, .mv (.t 1)⟩,
         ⟨none, some 22, .mv (.t 5)⟩,
         ⟨none, some 23, .idx 4 (.t 21) (.t 22)⟩,
         ⟨none, some 24, .ldn 4 (.t 23)⟩,
         ⟨none, some 25, .call n_laws_eqCall [.t 20, .t 24]⟩,
         ⟨none, some 26, .not (.t 25)⟩])
      (.cond (.t 26)
       (.seq (.reg [
           ⟨none, some 4, .mv (.k (.c (.b false)))⟩])
        (.ret))
       (.skip))))
    (.reg [
      ⟨none, some 15, .mv (.t 5)⟩,
      ⟨none, some 16, .bin .add (.t 15) (.k (.c (.i 1)))⟩,
      ⟨none, some 5, .mv (.t 16)⟩]))))))
 (.seq (.reg [
    ⟨none, some 4, .mv (.k (.c (.b true)))⟩])
 (.ret))))
theorem h_laws_eqCallS : Has Try.prog n_laws_eqCallS 27 c_laws_eqCallS [.t 4] := ⟨by decide, Try.f96, _, Try.func96, rfl, rfl, by kernel_rfl, by kernel_rfl⟩

def c_spec_OrderCalls : SC :=
 .seq (.reg [
    ⟨none, some 4, .mv (.k (.nil 1))⟩])
 (.seq (.reg [
    ⟨none, some 8, .bsl 1 []⟩,
    ⟨none, some 5, .mv (.t 8)⟩])
 (.seq (.seq (.reg [
     ⟨none, some 6, .mv (.k (.c (.i 0)))⟩])
  (.block 0 (.loop (.seq (.seq (.reg [
        ⟨none, some 9, .mv (.t 6)⟩,
        ⟨none, some 10, .mv (.t 0)⟩,
        ⟨none, some 11, .len (.t 10)⟩,
        ⟨none, some 12, .bin .lss (.t 9) (.t 11)⟩])
     (.cond (.t 12)
      (.skip)
      (.exit 0)))
    (.seq (.block 1 (.seq (.seq (.reg [
          ⟨none, some 15, .mv (.t 0)⟩,
          ⟨none, some 16, .mv (.t 6)⟩,
          ⟨none, some 17, .idx 4 (.t 15) (.t 16)⟩,
          ⟨none, some 18, .ldn 4 (.t 17)⟩,
          ⟨none, some 19, .mv (.t 1)⟩,
          ⟨none, some 20, .call n_spec_RankOf [.t 18, .t 19]⟩,
          ⟨none, some 21, .bin .eql (.t 20) (.k (.c (.i 3)))⟩])
       (.cond (.t 21)
        (.exit 1)
        (.skip)))
      (.seq (.reg [
         ⟨none, some 22, .mv (.t 5)⟩,
         ⟨none, some 23, .len (.t 22)⟩,
         ⟨none, some 7, .mv (.t 23)⟩])
      (.seq (.block 2 (.loop (.seq (.seq (.regq [
             ⟨none, some 24, .mv (.t 7)⟩,
             ⟨none, some 25, .bin .gtr (.t 24) (.k (.c (.i 0)))⟩,
             ⟨none, some 26, .mv (.t 25)⟩,
             ⟨some (26, true), some 27, .mv (.t 0)⟩,
             ⟨some (26, true), some 28, .mv (.t 6)⟩,
             ⟨some (26, true), some 29, .idx 4 (.t 27) (.t 28)⟩,
             ⟨some (26, true), some 30, .ldn 4 (.t 29)⟩,
             ⟨some (26, true), some 31, .mv (.t 0)⟩,
             ⟨some (26, true), some 32, .mv (.t 5)⟩,
             ⟨some (26, true), some 33, .mv (.t 7)⟩,
             ⟨some (26, true), some 34, .bin .sub (.t 33) (.k (.c (.i 1)))⟩,
             ⟨some (26, true), some 35, .idx 1 (.t 32) (.t 34)⟩,
             ⟨some (26, true), some 36, .ld1 (.t 35)⟩,
             ⟨some (26, true), some 37, .idx 4 (.t 31) (.t 36)⟩,
             ⟨some (26, true), some 38, .ldn 4 (.t 37)⟩,
             ⟨some (26, true), some 39, .mv (.t 1)⟩,
             ⟨some (26, true), some 40, .call n_spec_ComesBefore [.t 30, .t 38, .t 39]⟩,
             ⟨none, some 41, .pick (.t 26) (.t 40) (.k (.c (.b false)))⟩])
          (.cond (.t 41)
           (.skip)
           (.exit 2)))
         (.block 3 (.reg [
            ⟨none, some 42, .mv (.t 7)⟩,
            ⟨none, some 43, .bin .sub (.t 42) (.k (.c (.i 1)))⟩,
            ⟨none, some 7, .mv (.t 43)⟩])))))
      (.rege [
        ⟨1, false, [], ⟨none, some 44, .bsl 1 []⟩⟩,
        ⟨0, false, [], ⟨none, some 45, .mv (.t 5)⟩⟩,
        ⟨0, false, [], ⟨none, some 46, .mv (.t 7)⟩⟩,
        ⟨0, false, [], ⟨none, some 47, .slc 1 (.t 45) none (some (.t 46)) none⟩⟩,
        ⟨2, true, [], ⟨none, some 48, .app 1 8 (.t 44) (.t 47)⟩⟩,
        ⟨0, false, [4], ⟨none, some 49, .mv (.t 6)⟩⟩,
        ⟨1, false, [4], ⟨none, some 50, .bsl 1 [.t 49]⟩⟩,
        ⟨2, true, [], ⟨none, some 51, .app 1 8 (.t 48) (.t 50)⟩⟩,
        ⟨0, false, [4, 7], ⟨none, some 52, .mv (.t 5)⟩⟩,
        ⟨0, false, [4, 7], ⟨none, some 53, .mv (.t 7)⟩⟩,
        ⟨0, false, [4, 7], ⟨none, some 54, .slc 1 (.t 52) (some (.t 53)) none none⟩⟩,
        ⟨2, false, [], ⟨none, some 55, .app 1 8 (.t 51) (.t 54)⟩⟩,
        ⟨0, false, [], ⟨none, some 5, .mv (.t 55)⟩⟩])))))
    (.reg [
      ⟨none, some 13, .mv (.t 6)⟩,
      ⟨none, some 14, .bin .add (.t 13) (.k (.c (.i 1)))⟩,
      ⟨none, some 6, .mv (.t 14)⟩]))))))
 (.seq (.reg [
    ⟨none, some 56, .mv (.t 5)⟩,
    ⟨none, some 4, .mv (.t 56)⟩])
 (.ret))))
theorem h_spec_OrderCalls : Has Try.prog n_spec_OrderCalls 57 c_spec_OrderCalls [.t 4] := ⟨by decide, Try.f98, _, Try.func98, rfl, rfl, by kernel_rfl, by kernel_rfl⟩

def c_laws_szCall : SC :=
 .seq (.reg [
    ⟨none, some 2, .box 4 (.t 0)⟩,
    ⟨none, some 4, .mv (.k (.c (.i 0)))⟩])
 (.seq (.reg [
    ⟨none, some 5, .fld 0 (.t 2)⟩,
    ⟨none, some 6, .ldn 2 (.t 5)⟩,
    ⟨none, some 7, .mv (.t 1)⟩,
    ⟨none, some 8, .call n_laws_szTrain [.t 6, .t 7]⟩,
    ⟨none, some 1, .mv (.t 8)⟩])
 (.seq (.seq (.reg [
     ⟨none, some 9, .mv (.t 1)⟩,
     ⟨none, some 10, .bin .lss (.t 9) (.k (.c (.i 0)))⟩])
  (.cond (.t 10)
   (.seq (.reg [
       ⟨none, some 4, .mv (.k (.c (.i (-1))))⟩])
    (.ret))
   (.skip)))
 (.seq (.reg [
    ⟨none, some 11, .mv (.t 1)⟩,
    ⟨none, some 4, .mv (.t 11)⟩])
 (.ret))))
theorem h_laws_szCall : Has Try.prog n_laws_szCall 12 c_laws_szCall [.t 4] := ⟨by decide, Try.f160, _, Try.func160, rfl, rfl, by kernel_rfl, by kernel_rfl⟩

def c_spec_TurnOk : SC :=
 .seq (.reg [
    ⟨none, some 1, .box 2 (.t 0)⟩,
    ⟨none, some 2, .mv (.k (.c (.b false)))⟩])
 (.seq (.reg [
    ⟨none, some 3, .fld 1 (.t 1)⟩,
    ⟨none, some 4, .ld1 (.t 3)⟩,
    ⟨none, some 5, .call n_spec_l01In [.t 4, .k (.c (.i 0)), .k (.c (.i 1000000))]⟩,
    ⟨none, some 2, .mv (.t 5)⟩])
 (.ret))
theorem h_spec_TurnOk : Has Try.prog n_spec_TurnOk 6 c_spec_TurnOk [.t 2] := ⟨by decide, Try.f161, _, Try.func161, rfl, rfl, by kernel_rfl, by kernel_rfl⟩

def c_laws_toCall : SC :=
 .seq (.reg [
    ⟨none, some 1, .box 4 (.t 0)⟩,
    ⟨none, some 2, .alloc [.c (.b false), .nil 1, .c (.i 0), .c (.i 0)]⟩])
 (.seq (.reg [
    ⟨none, some 3, .alloc [.c (.b false), .nil 1, .c (.i 0), .c (.i 0)]⟩])
 (.seq (.reg [
    ⟨none, some 4, .fld 0 (.t 1)⟩,
    ⟨none, some 5, .ldn 2 (.t 4)⟩,
    ⟨none, some 6, .call n_laws_toTrain [.t 5]⟩,
    ⟨none, some 7, .fld 0 (.t 3)⟩,
    ⟨none, none, .stn 2 (.t 7) (.t 6)⟩])
 (.seq (.reg [
    ⟨none, some 8, .fld 2 (.t 1)⟩,
    ⟨none, some 9, .ld1 (.t 8)⟩,
    ⟨none, some 10, .fld 2 (.t 3)⟩,
    ⟨none, none, .st1 (.t 10) (.t 9)⟩])
 (.seq (.reg [
    ⟨none, some 11, .fld 3 (.t 1)⟩,
    ⟨none, some 12, .ld1 (.t 11)⟩,
    ⟨none, some 13, .fld 3 (.t 3)⟩,
    ⟨none, none, .st1 (.t 13) (.t 12)⟩])
 (.seq (.reg [
    ⟨none, some 14, .ldn 4 (.t 3)⟩,
    ⟨none, none, .stn 4 (.t 2) (.t 14)⟩])
 (.ret))))))
theorem h_laws_toCall : Has Try.prog n_laws_toCall 15 c_laws_toCall [.cl 2 4] := ⟨by decide, Try.f162, _, Try.func162, rfl, rfl, by kernel_rfl, by kernel_rfl⟩

def c_laws_eqCall : SC :=
 .seq (.reg [
    ⟨none, some 2, .box 4 (.t 0)⟩,
    ⟨none, some 3, .box 4 (.t 1)⟩,
    ⟨none, some 4, .mv (.k (.c (.b false)))⟩])
 (.seq (.seq (.reg [
     ⟨none, some 5, .fld 0 (.t 2)⟩,
     ⟨none, some 6, .ldn 2 (.t 5)⟩,
     ⟨none, some 7, .fld 0 (.t 3)⟩,
     ⟨none, some 8, .ldn 2 (.t 7)⟩,
     ⟨none, some 9, .call n_laws_eqTrain [.t 6, .t 8]⟩,
     ⟨none, some 10, .not (.t 9)⟩])
  (.cond (.t 10)
   (.seq (.reg [
       ⟨none, some 4, .mv (.k (.c (.b false)))⟩])
    (.ret))
   (.skip)))
 (.seq (.seq (.reg [
     ⟨none, some 11, .fld 2 (.t 2)⟩,
     ⟨none, some 12, .ld1 (.t 11)⟩,
     ⟨none, some 13, .fld 2 (.t 3)⟩,
     ⟨none, some 14, .ld1 (.t 13)⟩,
     ⟨none, some 15, .bin .neq (.t 12) (.t 14)⟩])
  (.cond (.t 15)
   (.seq (.reg [
       ⟨none, some 4, .mv (.k (.c (.b false)))⟩])
    (.ret))
   (.skip)))
 (.seq (.seq (.reg [
     ⟨none, some 16, .fld 3 (.t 2)⟩,
     ⟨none, some 17, .ld1 (.t 16)⟩,
     ⟨none, some 18, .fld 3 (.t 3)⟩,
     ⟨none, some 19, .ld1 (.t 18)⟩,
     ⟨none, some 20, .bin .neq (.t 17) (.t 19)⟩])
  (.cond (.t 20)
   (.seq (.reg [
       ⟨none, some 4, .mv (.k (.c (.b false)))⟩])
    (.ret))
   (.skip)))
 (.seq (.reg [
    ⟨none, some 4, .mv (.k (.c (.b true)))⟩])
 (.ret)))))
theorem h_laws_eqCall : Has Try.prog n_laws_eqCall 21 c_laws_eqCall [.t 4] := ⟨by decide, Try.f163, _, Try.func163, rfl, rfl, by kernel_rfl, by kernel_rfl⟩

def c_spec_RankOf : SC :=
 .seq (.reg [
    ⟨none, some 2, .box 4 (.t 0)⟩,
    ⟨none, some 4, .mv (.k (.c (.i 0)))⟩])
 (.seq (.seq (.reg [
     ⟨none, some 5, .ldn 4 (.t 2)⟩,
     ⟨none, some 6, .call n_spec_CallOk [.t 5]⟩,
     ⟨none, some 7, .not (.t 6)⟩,
     ⟨none, some 8, .mv (.t 7)⟩,
     ⟨some (8, false), some 9, .mv (.t 1)⟩,
     ⟨some (8, false), some 10, .fld 2 (.t 2)⟩,
     ⟨some (8, false), some 11, .ld1 (.t 10)⟩,
     ⟨some (8, false), some 12, .call n_spec_l01In [.t 9, .t 11, .k (.c (.i 1000000))]⟩,
     ⟨some (8, false), some 13, .not (.t 12)⟩,
     ⟨none, some 14, .pick (.t 8) (.k (.c (.b true))) (.t 13)⟩])
  (.cond (.t 14)
   (.seq (.reg [
       ⟨none, some 4, .mv (.k (.c (.i 3)))⟩])
    (.ret))
   (.skip)))
 (.seq (.seq (.reg [
     ⟨none, some 15, .fld 3 (.t 2)⟩,
     ⟨none, some 16, .ld1 (.t 15)⟩,
     ⟨none, some 17, .mv (.t 1)⟩,
     ⟨none, some 18, .call n_spec_l01In [.t 16, .k (.c (.i 0)), .t 17]⟩])
  (.cond (.t 18)
   (.seq (.reg [
       ⟨none, some 4, .mv (.k (.c (.i (-1))))⟩])
    (.ret))
   (.skip)))
 (.seq (.regq [
    ⟨none, some 19, .fld 0 (.t 2)⟩,
    ⟨none, some 20, .ldn 2 (.t 19)⟩,
    ⟨none, some 21, .call n_spec_ClassOf [.t 20]⟩,
    ⟨none, some 22, .mv (.t 1)⟩,
    ⟨none, some 23, .fld 2 (.t 2)⟩,
    ⟨none, some 24, .ld1 (.t 23)⟩,
    ⟨none, some 25, .bin .sub (.t 22) (.t 24)⟩,
    ⟨none, some 26, .bin .quo (.t 25) (.k (.c (.i 20)))⟩,
    ⟨none, some 27, .bin .sub (.t 21) (.t 26)⟩,
    ⟨none, some 28, .mx [.k (.c (.i 0)), .t 27]⟩,
    ⟨none, some 4, .mv (.t 28)⟩])
 (.ret))))
theorem h_spec_RankOf : Has Try.prog n_spec_RankOf 29 c_spec_RankOf [.t 4] := ⟨by decide, Try.f164, _, Try.func164, rfl, rfl, by kernel_rfl, by kernel_rfl⟩

def c_spec_ComesBefore : SC :=
 .seq (.reg [
    ⟨none, some 3, .box 4 (.t 0)⟩,
    ⟨none, some 4, .box 4 (.t 1)⟩,
    ⟨none, some 6, .mv (.k (.c (.b false)))⟩])
 (.seq (.reg [
    ⟨none, some 9, .ldn 4 (.t 3)⟩,
    ⟨none, some 10, .mv (.t 2)⟩,
    ⟨none, some 11, .call n_spec_RankOf [.t 9, .t 10]⟩,
    ⟨none, some 7, .mv (.t 11)⟩])
 (.seq (.reg [
    ⟨none, some 12, .ldn 4 (.t 4)⟩,
    ⟨none, some 13, .mv (.t 2)⟩,
    ⟨none, some 14, .call n_spec_RankOf [.t 12, .t 13]⟩,
    ⟨none, some 8, .mv (.t 14)⟩])
 (.seq (.block 0 (.seq (.reg [
      ⟨none, some 16, .mv (.t 7)⟩,
      ⟨none, some 17, .bin .eql (.t 16) (.k (.c (.i 3)))⟩,
      ⟨none, some 18, .mv (.t 17)⟩,
      ⟨some (18, false), some 19, .mv (.t 8)⟩,
      ⟨some (18, false), some 20, .bin .eql (.t 19) (.k (.c (.i 3)))⟩,
      ⟨none, some 21, .pick (.t 18) (.k (.c (.b true))) (.t 20)⟩,
      ⟨none, some 15, .mv (.t 21)⟩])
   (.cond (.t 15)
    (.seq (.reg [
        ⟨none, some 6, .mv (.k (.c (.b false)))⟩])
     (.ret))
    (.seq (.reg [
        ⟨none, some 23, .mv (.t 7)⟩,
        ⟨none, some 24, .mv (.t 8)⟩,
        ⟨none, some 25, .bin .neq (.t 23) (.t 24)⟩,
        ⟨none, some 22, .mv (.t 25)⟩])
     (.cond (.t 22)
      (.seq (.reg [
          ⟨none, some 26, .mv (.t 7)⟩,
          ⟨none, some 27, .mv (.t 8)⟩,
          ⟨none, some 28, .bin .lss (.t 26) (.t 27)⟩,
          ⟨none, some 6, .mv (.t 28)⟩])
       (.ret))
      (.seq (.reg [
          ⟨none, some 30, .mv (.t 7)⟩,
          ⟨none, some 31, .bin .eql (.t 30) (.k (.c (.i (-1))))⟩,
          ⟨none, some 32, .mv (.t 31)⟩,
          ⟨some (32, true), some 33, .fld 3 (.t 3)⟩,
          ⟨some (32, true), some 34, .ld1 (.t 33)⟩,
          ⟨some (32, true), some 35, .fld 3 (.t 4)⟩,
          ⟨some (32, true), some 36, .ld1 (.t 35)⟩,
          ⟨some (32, true), some 37, .bin .neq (.t 34) (.t 36)⟩,
          ⟨none, some 38, .pick (.t 32) (.t 37) (.k (.c (.b false)))⟩,
          ⟨none, some 29, .mv (.t 38)⟩])
       (.cond (.t 29)
        (.seq (.reg [
            ⟨none, some 39, .fld 3 (.t 3)⟩,
            ⟨none, some 40, .ld1 (.t 39)⟩,
            ⟨none, some 41, .fld 3 (.t 4)⟩,
            ⟨none, some 42, .ld1 (.t 41)⟩,
            ⟨none, some 43, .bin .lss (.t 40) (.t 42)⟩,
            ⟨none, some 6, .mv (.t 43)⟩])
         (.ret))
        (.seq (.reg [
            ⟨none, some 45, .fld 2 (.t 3)⟩,
            ⟨none, some 46, .ld1 (.t 45)⟩,
            ⟨none, some 47, .fld 2 (.t 4)⟩,
            ⟨none, some 48, .ld1 (.t 47)⟩,
            ⟨none, some 49, .bin .neq (.t 46) (.t 48)⟩,
            ⟨none, some 44, .mv (.t 49)⟩])
         (.cond (.t 44)
          (.seq (.reg [
              ⟨none, some 50, .fld 2 (.t 3)⟩,
              ⟨none, some 51, .ld1 (.t 50)⟩,
              ⟨none, some 52, .fld 2 (.t 4)⟩,
              ⟨none, some 53, .ld1 (.t 52)⟩,
              ⟨none, some 54, .bin .lss (.t 51) (.t 53)⟩,
              ⟨none, some 6, .mv (.t 54)⟩])
           (.ret))
          (.skip))))))))))
 (.seq (.regq [
    ⟨none, some 55, .fld 0 (.t 3)⟩,
    ⟨none, some 56, .ldn 2 (.t 55)⟩,
    ⟨none, some 57, .call n_spec_IdsOf [.t 56]⟩,
    ⟨none, some 58, .idx 1 (.t 57) (.k (.c (.i 0)))⟩,
    ⟨none, some 59, .ld1 (.t 58)⟩,
    ⟨none, some 60, .fld 0 (.t 4)⟩,
    ⟨none, some 61, .ldn 2 (.t 60)⟩,
    ⟨none, some 62, .call n_spec_IdsOf [.t 61]⟩,
    ⟨none, some 63, .idx 1 (.t 62) (.k (.c (.i 0)))⟩,
    ⟨none, some 64, .ld1 (.t 63)⟩,
    ⟨none, some 65, .bin .lss (.t 59) (.t 64)⟩,
    ⟨none, some 6, .mv (.t 65)⟩])
 (.ret)))))
theorem h_spec_ComesBefore : Has Try.prog n_spec_ComesBefore 66 c_spec_ComesBefore [.t 6] := ⟨by decide, Try.f165, _, Try.func165, rfl, rfl, by kernel_rfl, by kernel_rfl⟩

def c_spec_CallOk : SC :=
 .seq (.reg [
    ⟨none, some 1, .box 4 (.t 0)⟩,
    ⟨none, some 2, .mv (.k (.c (.b false)))⟩])
 (.seq (.reg [
    ⟨none, some 3, .fld 0 (.t 1)⟩,
    ⟨none, some 4, .ldn 2 (.t 3)⟩,
    ⟨none, some 5, .call n_spec_TrainOk [.t 4]⟩,
    ⟨none, some 6, .mv (.t 5)⟩,
    ⟨some (6, true), some 7, .fld 2 (.t 1)⟩,
    ⟨some (6, true), some 8, .ld1 (.t 7)⟩,
    ⟨some (6, true), some 9, .call n_spec_l01In [.t 8, .k (.c (.i 0)), .k (.c (.i 1000000))]⟩,
    ⟨none, some 10, .pick (.t 6) (.t 9) (.k (.c (.b false)))⟩,
    ⟨none, some 11, .mv (.t 10)⟩,
    ⟨some (11, true), some 12, .fld 3 (.t 1)⟩,
    ⟨some (11, true), some 13, .ld1 (.t 12)⟩,
    ⟨some (11, true), some 14, .call n_spec_l01In [.t 13, .k (.c (.i (-1))), .k (.c (.i 1000000))]⟩,
    ⟨none, some 15, .pick (.t 11) (.t 14) (.k (.c (.b false)))⟩,
    ⟨none, some 2, .mv (.t 15)⟩])
 (.ret))
theorem h_spec_CallOk : Has Try.prog n_spec_CallOk 16 c_spec_CallOk [.t 2] := ⟨by decide, Try.f173, _, Try.func173, rfl, rfl, by kernel_rfl, by kernel_rfl⟩

def c_laws_FnTolls : SC :=
 .seq (.reg [
    ⟨none, some 2, .mv (.k (.c (.b false)))⟩])
 (.seq (.seq (.reg [
     ⟨none, some 13, .mv (.t 0)⟩,
     ⟨none, some 14, .call n_laws_big [.t 13]⟩])
  (.cond (.t 14)
   (.seq (.reg [
       ⟨none, some 2, .mv (.k (.c (.b true)))⟩])
    (.ret))
   (.skip)))
 (.seq (.reg [
    ⟨none, some 15, .mv (.t 0)⟩,
    ⟨none, some 16, .call n_spec_DrawTariff [.t 15]⟩,
    ⟨none, some 3, .alloc [.c (.i 0), .c (.i 0), .nil 1, .nil 1]⟩,
    ⟨none, none, .stn 4 (.t 3) (.t 16)⟩])
 (.seq (.reg [
    ⟨none, some 17, .mv (.t 0)⟩,
    ⟨none, some 18, .call n_spec_DrawTrain [.t 17]⟩,
    ⟨none, some 4, .alloc [.c (.b false), .nil 1]⟩,
    ⟨none, none, .stn 2 (.t 4) (.t 18)⟩])
 (.seq (.regq [
    ⟨none, some 19, .ldn 4 (.t 3)⟩,
    ⟨none, some 20, .ldn 2 (.t 4)⟩,
    ⟨none, some 21, .mv (.t 0)⟩,
    ⟨none, some 22, .call n_laws_at [.t 21, .k (.c (.i 0))]⟩,
    ⟨none, some 23, .call n_impl_TollEntries [.t 19, .t 20, .t 22]⟩,
    ⟨none, some 5, .mv (.t 23)⟩])
 (.seq (.reg [
    ⟨none, some 6, .mv (.k (.c (.i 0)))⟩])
 (.seq (.seq (.reg [
     ⟨none, some 7, .mv (.k (.c (.i 0)))⟩])
  (.block 0 (.loop (.seq (.seq (.reg [
        ⟨none, some 24, .mv (.t 7)⟩,
        ⟨none, some 25, .mv (.t 5)⟩,
        ⟨none, some 26, .len (.t 25)⟩,
        ⟨none, some 27, .bin .lss (.t 24) (.t 26)⟩])
     (.cond (.t 27)
      (.skip)
      (.exit 0)))
    (.seq (.block 1 (.seq (.reg [
         ⟨none, some 30, .mv (.t 6)⟩,
         ⟨none, some 31, .mv (.t 5)⟩,
         ⟨none, some 32, .mv (.t 7)⟩,
         ⟨none, some 33, .idx 5 (.t 31) (.t 32)⟩,
         ⟨none, some 34, .fld 2 (.t 33)⟩,
         ⟨none, some 35, .ld1 (.t 34)⟩,
         ⟨none, some 36, .bin .add (.t 30) (.t 35)⟩,
         ⟨none, some 6, .mv (.t 36)⟩])
      (.seq (.regq [
         ⟨none, some 37, .mv (.t 5)⟩,
         ⟨none, some 38, .mv (.t 7)⟩,
         ⟨none, some 39, .idx 5 (.t 37) (.t 38)⟩,
         ⟨none, some 40, .fld 0 (.t 39)⟩,
         ⟨none, some 41, .ld1 (.t 40)⟩,
         ⟨none, some 42, .bin .neq (.t 41) (.k (.c (.i 0)))⟩,
         ⟨none, some 43, .mv (.t 42)⟩,
         ⟨some (43, false), some 44, .mv (.t 5)⟩,
         ⟨some (43, false), some 45, .mv (.t 7)⟩,
         ⟨some (43, false), some 46, .idx 5 (.t 44) (.t 45)⟩,
         ⟨some (43, false), some 47, .fld 1 (.t 46)⟩,
         ⟨some (43, false), some 48, .ld1 (.t 47)⟩,
         ⟨some (43, false), some 49, .bin .lss (.t 48) (.k (.c (.i 1)))⟩,
         ⟨none, some 50, .pick (.t 43) (.k (.c (.b true))) (.t 49)⟩,
         ⟨none, some 51, .mv (.t 50)⟩,
         ⟨some (51, false), some 52, .mv (.t 5)⟩,
         ⟨some (51, false), some 53, .mv (.t 7)⟩,
         ⟨some (51, false), some 54, .idx 5 (.t 52) (.t 53)⟩,
         ⟨some (51, false), some 55, .fld 1 (.t 54)⟩,
         ⟨some (51, false), some 56, .ld1 (.t 55)⟩,
         ⟨some (51, false), some 57, .fld 3 (.t 3)⟩,
         ⟨some (51, false), some 58, .ld1 (.t 57)⟩,
         ⟨some (51, false), some 59, .len (.t 58)⟩,
         ⟨some (51, false), some 60, .bin .gtr (.t 56) (.t 59)⟩,
         ⟨none, some 61, .pick (.t 51) (.k (.c (.b true))) (.t 60)⟩,
         ⟨none, some 62, .mv (.t 61)⟩,
         ⟨some (62, false), some 63, .mv (.t 5)⟩,
         ⟨some (62, false), some 64, .mv (.t 7)⟩,
         ⟨some (62, false), some 65, .idx 5 (.t 63) (.t 64)⟩,
         ⟨some (62, false), some 66, .fld 4 (.t 65)⟩,
         ⟨some (62, false), some 67, .ld1 (.t 66)⟩,
         ⟨some (62, false), some 68, .ldn 2 (.t 4)⟩,
         ⟨some (62, false), some 69, .call n_spec_IdsOf [.t 68]⟩,
         ⟨some (62, false), some 70, .idx 1 (.t 69) (.k (.c (.i 0)))⟩,
         ⟨some (62, false), some 71, .ld1 (.t 70)⟩,
         ⟨some (62, false), some 72, .bin .neq (.t 67) (.t 71)⟩,
         ⟨none, some 73, .pick (.t 62) (.k (.c (.b true))) (.t 72)⟩,
         ⟨none, some 74, .mv (.t 73)⟩,
         ⟨some (74, false), some 75, .mv (.t 7)⟩,
         ⟨some (74, false), some 76, .bin .gtr (.t 75) (.k (.c (.i 0)))⟩,
         ⟨some (74, false), some 77, .mv (.t 76)⟩,
         ⟨some (77, true), some 78, .mv (.t 5)⟩,
         ⟨some (77, true), some 79, .mv (.t 7)⟩,
         ⟨some (77, true), some 80, .idx 5 (.t 78) (.t 79)⟩,
         ⟨some (77, true), some 81, .fld 1 (.t 80)⟩,
         ⟨some (77, true), some 82, .ld1 (.t 81)⟩,
         ⟨some (77, true), some 83, .mv (.t 5)⟩,
         ⟨some (77, true), some 84, .mv (.t 7)⟩,
         ⟨some (77, true), some 85, .bin .sub (.t 84) (.k (.c (.i 1)))⟩,
         ⟨some (77, true), some 86, .idx 5 (.t 83) (.t 85)⟩,
         ⟨some (77, true), some 87, .fld 1 (.t 86)⟩,
         ⟨some (77, true), some 88, .ld1 (.t 87)⟩,
         ⟨some (77, true), some 89, .bin .leq (.t 82) (.t 88)⟩,
         ⟨some (74, false), some 90, .pick (.t 77) (.t 89) (.k (.c (.b false)))⟩,
         ⟨none, some 91, .pick (.t 74) (.k (.c (.b true))) (.t 90)⟩,
         ⟨none, some 92, .mv (.t 91)⟩,
         ⟨some (92, false), some 93, .mv (.t 5)⟩,
         ⟨some (92, false), some 94, .mv (.t 7)⟩,
         ⟨some (92, false), some 95, .idx 5 (.t 93) (.t 94)⟩,
         ⟨some (92, false), some 96, .ldn 5 (.t 95)⟩,
         ⟨some (92, false), some 97, .call n_impl_EntryOk [.t 96]⟩,
         ⟨some (92, false), some 98, .not (.t 97)⟩,
         ⟨none, some 99, .pick (.t 92) (.k (.c (.b true))) (.t 98)⟩])
      (.cond (.t 99)
       (.seq (.reg [
           ⟨none, some 2, .mv (.k (.c (.b false)))⟩])
        (.ret))
       (.skip)))))
    (.reg [
      ⟨none, some 28, .mv (.t 7)⟩,
      ⟨none, some 29, .bin .add (.t 28) (.k (.c (.i 1)))⟩,
      ⟨none, some 7, .mv (.t 29)⟩]))))))
 (.seq (.reg [
    ⟨none, some 101, .mv (.t 0)⟩,
    ⟨none, some 102, .call n_spec_DrawBook [.t 101]⟩,
    ⟨none, some 103, .mv (.t 5)⟩,
    ⟨none, some 104, .call n_impl_PostEntries [.t 102, .t 103]⟩,
    ⟨none, some 100, .mv (.t 104)⟩,
    ⟨none, some 105, .ext 0 (.t 100)⟩,
    ⟨none, some 106, .ext 1 (.t 100)⟩,
    ⟨none, some 8, .mv (.t 105)⟩,
    ⟨none, some 9, .mv (.t 106)⟩])
 (.seq (.reg [
    ⟨none, some 107, .mv (.t 8)⟩,
    ⟨none, some 108, .call n_impl_BalancesOf [.t 107]⟩,
    ⟨none, some 10, .mv (.t 108)⟩])
 (.seq (.reg [
    ⟨none, some 11, .mv (.k (.c (.i 0)))⟩])
 (.seq (.seq (.reg [
     ⟨none, some 12, .mv (.k (.c (.i 0)))⟩])
  (.block 2 (.loop (.seq (.seq (.reg [
        ⟨none, some 109, .mv (.t 12)⟩,
        ⟨none, some 110, .mv (.t 10)⟩,
        ⟨none, some 111, .len (.t 110)⟩,
        ⟨none, some 112, .bin .lss (.t 109) (.t 111)⟩])
     (.cond (.t 112)
      (.skip)
      (.exit 2)))
    (.seq (.block 3 (.reg [
        ⟨none, some 115, .mv (.t 11)⟩,
        ⟨none, some 116, .mv (.t 10)⟩,
        ⟨none, some 117, .mv (.t 12)⟩,
        ⟨none, some 118, .idx 1 (.t 116) (.t 117)⟩,
        ⟨none, some 119, .ld1 (.t 118)⟩,
        ⟨none, some 120, .bin .add (.t 115) (.t 119)⟩,
        ⟨none, some 11, .mv (.t 120)⟩]))
    (.reg [
      ⟨none, some 113, .mv (.t 12)⟩,
      ⟨none, some 114, .bin .add (.t 113) (.k (.c (.i 1)))⟩,
      ⟨none, some 12, .mv (.t 114)⟩]))))))
 (.seq (.reg [
    ⟨none, some 121, .mv (.t 9)⟩,
    ⟨none, some 122, .mv (.t 121)⟩,
    ⟨some (122, true), some 123, .mv (.t 6)⟩,
    ⟨some (122, true), some 124, .ldn 4 (.t 3)⟩,
    ⟨some (122, true), some 125, .ldn 2 (.t 4)⟩,
    ⟨some (122, true), some 126, .call n_impl_TollOf [.t 124, .t 125]⟩,
    ⟨some (122, true), some 127, .bin .eql (.t 123) (.t 126)⟩,
    ⟨none, some 128, .pick (.t 122) (.t 127) (.k (.c (.b false)))⟩,
    ⟨none, some 129, .mv (.t 128)⟩,
    ⟨some (129, true), some 130, .mv (.t 11)⟩,
    ⟨some (129, true), some 131, .bin .eql (.t 130) (.k (.c (.i 0)))⟩,
    ⟨none, some 132, .pick (.t 129) (.t 131) (.k (.c (.b false)))⟩,
    ⟨none, some 133, .mv (.t 132)⟩,
    ⟨some (133, true), some 134, .mv (.t 10)⟩,
    ⟨some (133, true), some 135, .len (.t 134)⟩,
    ⟨some (133, true), some 136, .bin .eql (.t 135) (.k (.c (.i 12)))⟩,
    ⟨none, some 137, .pick (.t 133) (.t 136) (.k (.c (.b false)))⟩,
    ⟨none, some 138, .mv (.t 137)⟩,
    ⟨some (138, true), some 139, .ldn 4 (.t 3)⟩,
    ⟨some (138, true), some 140, .call n_impl_TariffOk [.t 139]⟩,
    ⟨none, some 141, .pick (.t 138) (.t 140) (.k (.c (.b false)))⟩,
    ⟨none, some 142, .mv (.t 141)⟩,
    ⟨some (142, true), some 143, .mv (.t 8)⟩,
    ⟨some (142, true), some 144, .call n_impl_BookOk [.t 143]⟩,
    ⟨none, some 145, .pick (.t 142) (.t 144) (.k (.c (.b false)))⟩,
    ⟨none, some 2, .mv (.t 145)⟩])
 (.ret))))))))))))
theorem h_laws_FnTolls : Has Try.prog n_laws_FnTolls 146 c_laws_FnTolls [.t 2] := ⟨by decide, Try.f18, _, Try.func18, rfl, rfl, by kernel_rfl, by kernel_rfl⟩

def c_spec_DrawTrain : SC :=
 .seq (.reg [
    ⟨none, some 2, .alloc [.c (.b false), .nil 1]⟩])
 (.seq (.reg [
    ⟨none, some 3, .mv (.t 0)⟩,
    ⟨none, some 4, .call n_spec_l01New [.t 3]⟩,
    ⟨none, some 5, .call n_spec_l04Train [.t 4, .k (.c (.i 1))]⟩,
    ⟨none, none, .stn 2 (.t 2) (.t 5)⟩])
 (.ret))
theorem h_spec_DrawTrain : Has Try.prog n_spec_DrawTrain 6 c_spec_DrawTrain [.cl 2 2] := ⟨by decide, Try.f80, _, Try.func80, rfl, rfl, by kernel_rfl, by kernel_rfl⟩

def c_laws_at : SC :=
 .seq (.reg [
    ⟨none, some 4, .mv (.k (.c (.i 0)))⟩])
 (.seq (.seq (.reg [
     ⟨none, some 5, .mv (.t 0)⟩,
     ⟨none, some 6, .len (.t 5)⟩,
     ⟨none, some 7, .bin .eql (.t 6) (.k (.c (.i 0)))⟩])
  (.cond (.t 7)
   (.seq (.reg [
       ⟨none, some 4, .mv (.k (.c (.i 0)))⟩])
    (.ret))
   (.skip)))
 (.seq (.reg [
    ⟨none, some 8, .mv (.t 0)⟩,
    ⟨none, some 9, .mv (.t 1)⟩,
    ⟨none, some 10, .bin .mul (.t 9) (.k (.c (.i 5)))⟩,
    ⟨none, some 11, .bin .add (.t 10) (.k (.c (.i 1)))⟩,
    ⟨none, some 12, .mv (.t 0)⟩,
    ⟨none, some 13, .len (.t 12)⟩,
    ⟨none, some 14, .bin .rem (.t 11) (.t 13)⟩,
    ⟨none, some 15, .idx 1 (.t 8) (.t 14)⟩,
    ⟨none, some 16, .ld1 (.t 15)⟩,
    ⟨none, some 17, .cvt 0 (.t 16)⟩,
    ⟨none, some 4, .mv (.t 17)⟩])
 (.ret)))
theorem h_laws_at : Has Try.prog n_laws_at 18 c_laws_at [.t 4] := ⟨by decide, Try.f83, _, Try.func83, rfl, rfl, by kernel_rfl, by kernel_rfl⟩

def c_spec_DrawTariff : SC :=
 .seq (.reg [
    ⟨none, some 2, .alloc [.c (.i 0), .c (.i 0), .nil 1, .nil 1]⟩])
 (.seq (.reg [
    ⟨none, some 3, .mv (.t 0)⟩,
    ⟨none, some 4, .call n_spec_l01New [.t 3]⟩,
    ⟨none, some 5, .call n_spec_l08Tariff [.t 4]⟩,
    ⟨none, none, .stn 4 (.t 2) (.t 5)⟩])
 (.ret))
theorem h_spec_DrawTariff : Has Try.prog n_spec_DrawTariff 6 c_spec_DrawTariff [.cl 2 4] := ⟨by decide, Try.f89, _, Try.func89, rfl, rfl, by kernel_rfl, by kernel_rfl⟩

def c_impl_TollEntries : SC :=
 .seq (.reg [
    ⟨none, some 3, .box 4 (.t 0)⟩,
    ⟨none, some 4, .box 2 (.t 1)⟩,
    ⟨none, some 6, .mv (.k (.nil 5))⟩])
 (.seq (.seq (.reg [
     ⟨none, some 11, .ldn 4 (.t 3)⟩,
     ⟨none, some 12, .call n_impl_TariffOk [.t 11]⟩,
     ⟨none, some 13, .not (.t 12)⟩,
     ⟨none, some 14, .mv (.t 13)⟩,
     ⟨some (14, false), some 15, .ldn 2 (.t 4)⟩,
     ⟨some (14, false), some 16, .call n_impl_TrainOk [.t 15]⟩,
     ⟨some (14, false), some 17, .not (.t 16)⟩,
     ⟨none, some 18, .pick (.t 14) (.k (.c (.b true))) (.t 17)⟩,
     ⟨none, some 19, .mv (.t 18)⟩,
     ⟨some (19, false), some 20, .mv (.t 2)⟩,
     ⟨some (19, false), some 21, .call n_impl_inRange [.t 20, .k (.c (.i 0)), .k (.c (.i 1000000))]⟩,
     ⟨some (19, false), some 22, .not (.t 21)⟩,
     ⟨none, some 23, .pick (.t 19) (.k (.c (.b true))) (.t 22)⟩])
  (.cond (.t 23)
   (.seq (.reg [
       ⟨none, some 6, .mv (.k (.nil 5))⟩])
    (.ret))
   (.skip)))
 (.seq (.reg [
    ⟨none, some 24, .ldn 2 (.t 4)⟩,
    ⟨none, some 25, .call n_impl_IdsOf [.t 24]⟩,
    ⟨none, some 26, .idx 1 (.t 25) (.k (.c (.i 0)))⟩,
    ⟨none, some 27, .ld1 (.t 26)⟩,
    ⟨none, some 7, .mv (.t 27)⟩])
 (.seq (.reg [
    ⟨none, some 8, .mv (.k (.nil 5))⟩])
 (.seq (.seq (.regq [
     ⟨none, some 28, .ldn 4 (.t 3)⟩,
     ⟨none, some 29, .ldn 2 (.t 4)⟩,
     ⟨none, some 30, .call n_impl_TollOf [.t 28, .t 29]⟩,
     ⟨none, some 31, .fld 3 (.t 3)⟩,
     ⟨none, some 32, .ld1 (.t 31)⟩,
     ⟨none, some 33, .call n_impl_ShareOut [.t 30, .t 32]⟩,
     ⟨none, some 34, .len (.t 33)⟩,
     ⟨none, some 35, .mv (.k (.c (.i 0)))⟩])
  (.block 0 (.loop (.seq (.reg [
       ⟨none, some 36, .bin .lss (.t 35) (.t 34)⟩])
    (.seq (.cond (.t 36)
      (.skip)
      (.exit 0))
    (.seq (.block 1 (.seq (.reg [
         ⟨none, some 37, .mv (.t 35)⟩,
         ⟨none, some 38, .idx 1 (.t 33) (.t 35)⟩,
         ⟨none, some 39, .ld1 (.t 38)⟩,
         ⟨none, some 9, .mv (.t 37)⟩,
         ⟨none, some 10, .mv (.t 39)⟩])
      (.seq (.reg [
         ⟨none, some 40, .mv (.t 10)⟩,
         ⟨none, some 41, .bin .gtr (.t 40) (.k (.c (.i 0)))⟩])
      (.cond (.t 41)
       (.reg [
          ⟨none, some 42, .mv (.t 8)⟩,
          ⟨none, some 43, .mv (.t 9)⟩,
          ⟨none, some 44, .bin .add (.t 43) (.k (.c (.i 1)))⟩,
          ⟨none, some 45, .mv (.t 10)⟩,
          ⟨none, some 46, .mv (.t 2)⟩,
          ⟨none, some 47, .mv (.t 7)⟩,
          ⟨none, some 48, .bld [.c (.i 0), .c (.i 0), .c (.i 0), .c (.i 0), .c (.i 0)] [(0, 1, .k (.c (.i 0))), (1, 1, .t 44), (2, 1, .t 45), (3, 1, .t 46), (4, 1, .t 47)]⟩,
          ⟨none, some 49, .bsl 5 [.t 48]⟩,
          ⟨none, some 50, .app 5 40 (.t 42) (.t 49)⟩,
          ⟨none, some 8, .mv (.t 50)⟩])
       (.skip)))))
    (.reg [
      ⟨none, some 51, .bin .add (.t 35) (.k (.c (.i 1)))⟩,
      ⟨none, some 35, .mv (.t 51)⟩])))))))
 (.seq (.reg [
    ⟨none, some 52, .mv (.t 8)⟩,
    ⟨none, some 6, .mv (.t 52)⟩])
 (.ret))))))
theorem h_impl_TollEntries : Has Try.prog n_impl_TollEntries 53 c_impl_TollEntries [.t 6] := ⟨by decide, Try.f90, _, Try.func90, rfl, rfl, by kernel_rfl, by kernel_rfl⟩

def c_spec_l08Tariff : SC :=
 .seq (.reg [
    ⟨none, some 2, .alloc [.c (.i 0), .c (.i 0), .nil 1, .nil 1]⟩])
 (.seq (.reg [
    ⟨none, some 5, .mv (.t 0)⟩,
    ⟨none, some 6, .call n_spec_l01Below [.t 5, .k (.c (.i 50))]⟩,
    ⟨none, some 7, .mv (.t 0)⟩,
    ⟨none, some 8, .call n_spec_l01Below [.t 7, .k (.c (.i 20))]⟩,
    ⟨none, some 9, .mv (.t 0)⟩,
    ⟨none, some 10, .call n_spec_l01Below [.t 9, .k (.c (.i 9))]⟩,
    ⟨none, some 11, .mv (.t 0)⟩,
    ⟨none, some 12, .call n_spec_l01Below [.t 11, .k (.c (.i 30))]⟩,
    ⟨none, some 13, .bsl 1 [.t 10, .t 12, .k (.c (.i 0))]⟩,
    ⟨none, some 14, .bld [.c (.i 0), .c (.i 0), .nil 1, .nil 1] [(0, 1, .t 6), (1, 1, .t 8), (2, 1, .t 13)]⟩,
    ⟨none, some 3, .alloc [.c (.i 0), .c (.i 0), .nil 1, .nil 1]⟩,
    ⟨none, none, .stn 4 (.t 3) (.t 14)⟩])
 (.seq (.seq (.reg [
     ⟨none, some 15, .mv (.t 0)⟩,
     ⟨none, some 16, .call n_spec_l01Below [.t 15, .k (.c (.i 4))]⟩,
     ⟨none, some 17, .bin .add (.k (.c (.i 1))) (.t 16)⟩,
     ⟨none, some 4, .mv (.t 17)⟩])
  (.block 0 (.loop (.seq (.seq (.reg [
        ⟨none, some 18, .mv (.t 4)⟩,
        ⟨none, some 19, .bin .gtr (.t 18) (.k (.c (.i 0)))⟩])
     (.cond (.t 19)
      (.skip)
      (.exit 0)))
    (.seq (.block 1 (.rege [
        ⟨0, false, [], ⟨none, some 22, .fld 3 (.t 3)⟩⟩,
        ⟨0, false, [], ⟨none, some 23, .ld1 (.t 22)⟩⟩,
        ⟨0, false, [], ⟨none, some 24, .mv (.t 0)⟩⟩,
        ⟨1, false, [], ⟨none, some 25, .bsl 1 [.k (.c (.i 1)), .k (.c (.i 2)), .k (.c (.i 3)), .k (.c (.i 7)), .k (.c (.i 0))]⟩⟩,
        ⟨0, false, [], ⟨none, some 26, .call n_spec_l01PickInt [.t 24, .t 25]⟩⟩,
        ⟨1, false, [], ⟨none, some 27, .bsl 1 [.t 26]⟩⟩,
        ⟨2, false, [], ⟨none, some 28, .app 1 8 (.t 23) (.t 27)⟩⟩,
        ⟨0, false, [], ⟨none, some 29, .fld 3 (.t 3)⟩⟩,
        ⟨2, false, [], ⟨none, none, .st1 (.t 29) (.t 28)⟩⟩]))
    (.reg [
      ⟨none, some 20, .mv (.t 4)⟩,
      ⟨none, some 21, .bin .sub (.t 20) (.k (.c (.i 1)))⟩,
      ⟨none, some 4, .mv (.t 21)⟩]))))))
 (.seq (.rege [
    ⟨0, false, [], ⟨none, some 30, .fld 3 (.t 3)⟩⟩,
    ⟨0, false, [], ⟨none, some 31, .ld1 (.t 30)⟩⟩,
    ⟨0, false, [], ⟨none, some 32, .fld 3 (.t 3)⟩⟩,
    ⟨0, false, [], ⟨none, some 33, .ld1 (.t 32)⟩⟩,
    ⟨0, false, [], ⟨none, some 34, .idx 1 (.t 33) (.k (.c (.i 0)))⟩⟩,
    ⟨0, false, [], ⟨none, some 35, .ld1 (.t 34)⟩⟩,
    ⟨0, false, [], ⟨none, some 36, .bin .add (.t 35) (.k (.c (.i 1)))⟩⟩,
    ⟨0, false, [], ⟨none, some 37, .idx 1 (.t 31) (.k (.c (.i 0)))⟩⟩,
    ⟨2, false, [], ⟨none, none, .st1 (.t 37) (.t 36)⟩⟩])
 (.seq (.reg [
    ⟨none, some 38, .ldn 4 (.t 3)⟩,
    ⟨none, none, .stn 4 (.t 2) (.t 38)⟩])
 (.ret)))))
theorem h_spec_l08Tariff : Has Try.prog n_spec_l08Tariff 39 c_spec_l08Tariff [.cl 2 4] := ⟨by decide, Try.f158, _, Try.func158, rfl, rfl, by kernel_rfl, by kernel_rfl⟩

end Go.Proofs.Ytfmgadchjiplmaa
