/- Functions of this seat in the small language, written by a program (GenCode) out of the translation; each is held against the translation by the kernel. -/
import Derived.Test.YtenfgllkjgfjpaaNames
import Derived.KernelRfl
set_option linter.all false
namespace Go.Proofs.Ytenfgllkjgfjpaa
open Go.RowKit

def c_laws_FnExactWayOk : SC :=
 .seq (.reg [
    ⟨none, some 1, .box 2 (.t 0)⟩,
    ⟨none, some 2, .mv (.k (.c (.b false)))⟩])
 (.seq (.reg [
    ⟨none, some 5, .ldn 2 (.t 1)⟩,
    ⟨none, some 6, .call n_laws_toWay [.t 5]⟩,
    ⟨none, some 7, .call n_spec_WayOk [.t 6]⟩,
    ⟨none, some 3, .mv (.t 7)⟩])
 (.seq (.reg [
    ⟨none, some 8, .ldn 2 (.t 1)⟩,
    ⟨none, some 9, .call n_laws_toWay [.t 8]⟩,
    ⟨none, some 10, .call n_impl_WayOk [.t 9]⟩,
    ⟨none, some 4, .mv (.t 10)⟩])
 (.seq (.seq (.reg [
     ⟨none, some 11, .mv (.t 4)⟩,
     ⟨none, some 12, .mv (.t 3)⟩,
     ⟨none, some 13, .beq true (.t 11) (.t 12)⟩])
  (.cond (.t 13)
   (.seq (.reg [
       ⟨none, some 2, .mv (.k (.c (.b false)))⟩])
    (.ret))
   (.skip)))
 (.seq (.reg [
    ⟨none, some 2, .mv (.k (.c (.b true)))⟩])
 (.ret)))))
theorem h_laws_FnExactWayOk : Has Try.prog n_laws_FnExactWayOk 14 c_laws_FnExactWayOk [.t 2] := ⟨⟨Try.f3, _, Try.func3, rfl, rfl, by kernel_rfl, by kernel_rfl⟩⟩

def c_laws_FnExactEntryOk : SC :=
 .seq (.reg [
    ⟨none, some 1, .box 5 (.t 0)⟩,
    ⟨none, some 2, .mv (.k (.c (.b false)))⟩])
 (.seq (.reg [
    ⟨none, some 5, .ldn 5 (.t 1)⟩,
    ⟨none, some 6, .call n_laws_toEntry [.t 5]⟩,
    ⟨none, some 7, .call n_spec_EntryOk [.t 6]⟩,
    ⟨none, some 3, .mv (.t 7)⟩])
 (.seq (.reg [
    ⟨none, some 8, .ldn 5 (.t 1)⟩,
    ⟨none, some 9, .call n_laws_toEntry [.t 8]⟩,
    ⟨none, some 10, .call n_impl_EntryOk [.t 9]⟩,
    ⟨none, some 4, .mv (.t 10)⟩])
 (.seq (.seq (.reg [
     ⟨none, some 11, .mv (.t 4)⟩,
     ⟨none, some 12, .mv (.t 3)⟩,
     ⟨none, some 13, .beq true (.t 11) (.t 12)⟩])
  (.cond (.t 13)
   (.seq (.reg [
       ⟨none, some 2, .mv (.k (.c (.b false)))⟩])
    (.ret))
   (.skip)))
 (.seq (.reg [
    ⟨none, some 2, .mv (.k (.c (.b true)))⟩])
 (.ret)))))
theorem h_laws_FnExactEntryOk : Has Try.prog n_laws_FnExactEntryOk 14 c_laws_FnExactEntryOk [.t 2] := ⟨⟨Try.f4, _, Try.func4, rfl, rfl, by kernel_rfl, by kernel_rfl⟩⟩

def c_laws_FnExactBookOk : SC :=
 .seq (.reg [
    ⟨none, some 2, .mv (.k (.c (.b false)))⟩])
 (.seq (.reg [
    ⟨none, some 3, .mv (.k (.c (.i 1048576)))⟩])
 (.seq (.reg [
    ⟨none, some 7, .mv (.t 0)⟩,
    ⟨none, some 8, .mv (.t 3)⟩,
    ⟨none, some 9, .call n_laws_szEntryS [.t 7, .t 8]⟩,
    ⟨none, some 3, .mv (.t 9)⟩])
 (.seq (.seq (.reg [
     ⟨none, some 10, .mv (.t 3)⟩,
     ⟨none, some 11, .bin .lss (.t 10) (.k (.c (.i 0)))⟩])
  (.cond (.t 11)
   (.seq (.reg [
       ⟨none, some 2, .mv (.k (.c (.b true)))⟩])
    (.ret))
   (.skip)))
 (.seq (.reg [
    ⟨none, some 12, .mv (.t 0)⟩,
    ⟨none, some 13, .call n_laws_toEntryS [.t 12]⟩,
    ⟨none, some 14, .call n_spec_BookOk [.t 13]⟩,
    ⟨none, some 4, .mv (.t 14)⟩])
 (.seq (.reg [
    ⟨none, some 15, .mv (.t 0)⟩,
    ⟨none, some 16, .call n_laws_toEntryS [.t 15]⟩,
    ⟨none, some 5, .mv (.t 16)⟩])
 (.seq (.reg [
    ⟨none, some 17, .mv (.t 5)⟩,
    ⟨none, some 18, .call n_impl_BookOk [.t 17]⟩,
    ⟨none, some 6, .mv (.t 18)⟩])
 (.seq (.seq (.reg [
     ⟨none, some 19, .mv (.t 6)⟩,
     ⟨none, some 20, .mv (.t 4)⟩,
     ⟨none, some 21, .beq true (.t 19) (.t 20)⟩])
  (.cond (.t 21)
   (.seq (.reg [
       ⟨none, some 2, .mv (.k (.c (.b false)))⟩])
    (.ret))
   (.skip)))
 (.seq (.seq (.reg [
     ⟨none, some 22, .mv (.t 5)⟩,
     ⟨none, some 23, .mv (.t 0)⟩,
     ⟨none, some 24, .call n_laws_toEntryS [.t 23]⟩,
     ⟨none, some 25, .call n_laws_eqEntryS [.t 22, .t 24]⟩,
     ⟨none, some 26, .not (.t 25)⟩])
  (.cond (.t 26)
   (.seq (.reg [
       ⟨none, some 2, .mv (.k (.c (.b false)))⟩])
    (.ret))
   (.skip)))
 (.seq (.reg [
    ⟨none, some 2, .mv (.k (.c (.b true)))⟩])
 (.ret))))))))))
theorem h_laws_FnExactBookOk : Has Try.prog n_laws_FnExactBookOk 27 c_laws_FnExactBookOk [.t 2] := ⟨⟨Try.f5, _, Try.func5, rfl, rfl, by kernel_rfl, by kernel_rfl⟩⟩

def c_laws_FnExactTariffOk : SC :=
 .seq (.reg [
    ⟨none, some 1, .box 4 (.t 0)⟩,
    ⟨none, some 2, .mv (.k (.c (.b false)))⟩])
 (.seq (.reg [
    ⟨none, some 3, .mv (.k (.c (.i 1048576)))⟩])
 (.seq (.reg [
    ⟨none, some 7, .ldn 4 (.t 1)⟩,
    ⟨none, some 8, .mv (.t 3)⟩,
    ⟨none, some 9, .call n_laws_szTariff [.t 7, .t 8]⟩,
    ⟨none, some 3, .mv (.t 9)⟩])
 (.seq (.seq (.reg [
     ⟨none, some 10, .mv (.t 3)⟩,
     ⟨none, some 11, .bin .lss (.t 10) (.k (.c (.i 0)))⟩])
  (.cond (.t 11)
   (.seq (.reg [
       ⟨none, some 2, .mv (.k (.c (.b true)))⟩])
    (.ret))
   (.skip)))
 (.seq (.reg [
    ⟨none, some 12, .ldn 4 (.t 1)⟩,
    ⟨none, some 13, .call n_laws_toTariff [.t 12]⟩,
    ⟨none, some 14, .call n_spec_TariffOk [.t 13]⟩,
    ⟨none, some 4, .mv (.t 14)⟩])
 (.seq (.reg [
    ⟨none, some 15, .ldn 4 (.t 1)⟩,
    ⟨none, some 16, .call n_laws_toTariff [.t 15]⟩,
    ⟨none, some 5, .alloc [.c (.i 0), .c (.i 0), .nil, .nil]⟩,
    ⟨none, none, .stn 4 (.t 5) (.t 16)⟩])
 (.seq (.reg [
    ⟨none, some 17, .ldn 4 (.t 5)⟩,
    ⟨none, some 18, .call n_impl_TariffOk [.t 17]⟩,
    ⟨none, some 6, .mv (.t 18)⟩])
 (.seq (.seq (.reg [
     ⟨none, some 19, .mv (.t 6)⟩,
     ⟨none, some 20, .mv (.t 4)⟩,
     ⟨none, some 21, .beq true (.t 19) (.t 20)⟩])
  (.cond (.t 21)
   (.seq (.reg [
       ⟨none, some 2, .mv (.k (.c (.b false)))⟩])
    (.ret))
   (.skip)))
 (.seq (.seq (.regq [
     ⟨none, some 22, .ldn 4 (.t 5)⟩,
     ⟨none, some 23, .ldn 4 (.t 1)⟩,
     ⟨none, some 24, .call n_laws_toTariff [.t 23]⟩,
     ⟨none, some 25, .call n_laws_eqTariff [.t 22, .t 24]⟩,
     ⟨none, some 26, .not (.t 25)⟩])
  (.cond (.t 26)
   (.seq (.reg [
       ⟨none, some 2, .mv (.k (.c (.b false)))⟩])
    (.ret))
   (.skip)))
 (.seq (.reg [
    ⟨none, some 2, .mv (.k (.c (.b true)))⟩])
 (.ret))))))))))
theorem h_laws_FnExactTariffOk : Has Try.prog n_laws_FnExactTariffOk 27 c_laws_FnExactTariffOk [.t 2] := ⟨⟨Try.f6, _, Try.func6, rfl, rfl, by kernel_rfl, by kernel_rfl⟩⟩

def c_laws_FnExactBalancesOf : SC :=
 .seq (.reg [
    ⟨none, some 2, .mv (.k (.c (.b false)))⟩])
 (.seq (.reg [
    ⟨none, some 3, .mv (.k (.c (.i 1048576)))⟩])
 (.seq (.reg [
    ⟨none, some 11, .mv (.t 0)⟩,
    ⟨none, some 12, .mv (.t 3)⟩,
    ⟨none, some 13, .call n_laws_szEntryS [.t 11, .t 12]⟩,
    ⟨none, some 3, .mv (.t 13)⟩])
 (.seq (.seq (.reg [
     ⟨none, some 14, .mv (.t 3)⟩,
     ⟨none, some 15, .bin .lss (.t 14) (.k (.c (.i 0)))⟩])
  (.cond (.t 15)
   (.seq (.reg [
       ⟨none, some 2, .mv (.k (.c (.b true)))⟩])
    (.ret))
   (.skip)))
 (.seq (.reg [
    ⟨none, some 16, .mv (.t 0)⟩,
    ⟨none, some 17, .call n_laws_toEntryS [.t 16]⟩,
    ⟨none, some 18, .call n_spec_BalancesOf [.t 17]⟩,
    ⟨none, some 4, .mv (.t 18)⟩])
 (.seq (.reg [
    ⟨none, some 19, .mv (.t 0)⟩,
    ⟨none, some 20, .call n_laws_toEntryS [.t 19]⟩,
    ⟨none, some 5, .mv (.t 20)⟩])
 (.seq (.reg [
    ⟨none, some 21, .mv (.t 5)⟩,
    ⟨none, some 22, .call n_impl_BalancesOf [.t 21]⟩,
    ⟨none, some 6, .mv (.t 22)⟩])
 (.seq (.seq (.reg [
     ⟨none, some 23, .mv (.t 6)⟩,
     ⟨none, some 24, .mv (.t 4)⟩,
     ⟨none, some 25, .call n_laws_eqIntS [.t 23, .t 24]⟩,
     ⟨none, some 26, .not (.t 25)⟩])
  (.cond (.t 26)
   (.seq (.reg [
       ⟨none, some 2, .mv (.k (.c (.b false)))⟩])
    (.ret))
   (.skip)))
 (.seq (.seq (.reg [
     ⟨none, some 27, .mv (.t 5)⟩,
     ⟨none, some 28, .mv (.t 0)⟩,
     ⟨none, some 29, .call n_laws_toEntryS [.t 28]⟩,
     ⟨none, some 30, .call n_laws_eqEntryS [.t 27, .t 29]⟩,
     ⟨none, some 31, .not (.t 30)⟩])
  (.cond (.t 31)
   (.seq (.reg [
       ⟨none, some 2, .mv (.k (.c (.b false)))⟩])
    (.ret))
   (.skip)))
 (.seq (.reg [
    ⟨none, some 7, .mv (.k (.c (.i 1)))⟩])
 (.seq (.reg [
    ⟨none, some 32, .mv (.t 5)⟩,
    ⟨none, some 33, .mv (.t 7)⟩,
    ⟨none, some 34, .call n_laws_markEntryS [.t 32, .t 33]⟩,
    ⟨none, some 7, .mv (.t 34)⟩])
 (.seq (.seq (.reg [
     ⟨none, some 35, .mv (.t 7)⟩,
     ⟨none, some 36, .bin .lss (.t 35) (.k (.c (.i 0)))⟩,
     ⟨none, some 37, .mv (.t 36)⟩,
     ⟨some (37, false), some 38, .mv (.t 6)⟩,
     ⟨some (37, false), some 39, .mv (.t 4)⟩,
     ⟨some (37, false), some 40, .call n_laws_eqIntS [.t 38, .t 39]⟩,
     ⟨some (37, false), some 41, .not (.t 40)⟩,
     ⟨none, some 42, .pick (.t 37) (.k (.c (.b true))) (.t 41)⟩])
  (.cond (.t 42)
   (.seq (.reg [
       ⟨none, some 2, .mv (.k (.c (.b false)))⟩])
    (.ret))
   (.skip)))
 (.seq (.reg [
    ⟨none, some 8, .mv (.k (.c (.i 1)))⟩])
 (.seq (.reg [
    ⟨none, some 43, .mv (.t 6)⟩,
    ⟨none, some 44, .mv (.t 8)⟩,
    ⟨none, some 45, .call n_laws_markIntS [.t 43, .t 44]⟩,
    ⟨none, some 8, .mv (.t 45)⟩])
 (.seq (.reg [
    ⟨none, some 9, .mv (.k (.c (.i 1)))⟩])
 (.seq (.reg [
    ⟨none, some 46, .mv (.t 6)⟩,
    ⟨none, some 47, .mv (.t 9)⟩,
    ⟨none, some 48, .call n_laws_heldIntS [.t 46, .t 47]⟩,
    ⟨none, some 9, .mv (.t 48)⟩])
 (.seq (.seq (.reg [
     ⟨none, some 49, .mv (.t 9)⟩,
     ⟨none, some 50, .bin .lss (.t 49) (.k (.c (.i 0)))⟩])
  (.cond (.t 50)
   (.seq (.reg [
       ⟨none, some 2, .mv (.k (.c (.b false)))⟩])
    (.ret))
   (.skip)))
 (.seq (.seq (.reg [
     ⟨none, some 51, .mv (.t 9)⟩,
     ⟨none, some 52, .mv (.t 8)⟩,
     ⟨none, some 53, .bin .neq (.t 51) (.t 52)⟩])
  (.cond (.t 53)
   (.seq (.reg [
       ⟨none, some 2, .mv (.k (.c (.b false)))⟩])
    (.ret))
   (.skip)))
 (.seq (.reg [
    ⟨none, some 54, .mv (.t 0)⟩,
    ⟨none, some 55, .call n_laws_toEntryS [.t 54]⟩,
    ⟨none, some 56, .call n_impl_BalancesOf [.t 55]⟩,
    ⟨none, some 10, .mv (.t 56)⟩])
 (.seq (.seq (.reg [
     ⟨none, some 57, .mv (.t 10)⟩,
     ⟨none, some 58, .mv (.t 4)⟩,
     ⟨none, some 59, .call n_laws_eqIntS [.t 57, .t 58]⟩,
     ⟨none, some 60, .not (.t 59)⟩])
  (.cond (.t 60)
   (.seq (.reg [
       ⟨none, some 2, .mv (.k (.c (.b false)))⟩])
    (.ret))
   (.skip)))
 (.seq (.reg [
    ⟨none, some 9, .mv (.k (.c (.i 1)))⟩])
 (.seq (.reg [
    ⟨none, some 61, .mv (.t 6)⟩,
    ⟨none, some 62, .mv (.t 9)⟩,
    ⟨none, some 63, .call n_laws_heldIntS [.t 61, .t 62]⟩,
    ⟨none, some 9, .mv (.t 63)⟩])
 (.seq (.seq (.reg [
     ⟨none, some 64, .mv (.t 9)⟩,
     ⟨none, some 65, .bin .lss (.t 64) (.k (.c (.i 0)))⟩])
  (.cond (.t 65)
   (.seq (.reg [
       ⟨none, some 2, .mv (.k (.c (.b false)))⟩])
    (.ret))
   (.skip)))
 (.seq (.seq (.reg [
     ⟨none, some 66, .mv (.t 9)⟩,
     ⟨none, some 67, .mv (.t 8)⟩,
     ⟨none, some 68, .bin .neq (.t 66) (.t 67)⟩])
  (.cond (.t 68)
   (.seq (.reg [
       ⟨none, some 2, .mv (.k (.c (.b false)))⟩])
    (.ret))
   (.skip)))
 (.seq (.reg [
    ⟨none, some 2, .mv (.k (.c (.b true)))⟩])
 (.ret)))))))))))))))))))))))))
theorem h_laws_FnExactBalancesOf : Has Try.prog n_laws_FnExactBalancesOf 69 c_laws_FnExactBalancesOf [.t 2] := ⟨⟨Try.f7, _, Try.func7, rfl, rfl, by kernel_rfl, by kernel_rfl⟩⟩

def c_laws_FnTurns : SC :=
 .seq (.reg [
    ⟨none, some 2, .mv (.k (.c (.b false)))⟩])
 (.seq (.seq (.reg [
     ⟨none, some 12, .mv (.t 0)⟩,
     ⟨none, some 13, .call n_laws_big [.t 12]⟩])
  (.cond (.t 13)
   (.seq (.reg [
       ⟨none, some 2, .mv (.k (.c (.b true)))⟩])
    (.ret))
   (.skip)))
 (.seq (.reg [
    ⟨none, some 14, .bld [.c (.b false), .c (.i 0)] []⟩,
    ⟨none, some 3, .alloc [.c (.b false), .c (.i 0)]⟩,
    ⟨none, none, .stn 2 (.t 3) (.t 14)⟩])
 (.seq (.reg [
    ⟨none, some 15, .mv (.t 0)⟩,
    ⟨none, some 16, .call n_spec_DrawCalls [.t 15]⟩,
    ⟨none, some 4, .mv (.t 16)⟩])
 (.seq (.reg [
    ⟨none, some 5, .mv (.k (.c (.i 0)))⟩])
 (.seq (.reg [
    ⟨none, some 6, .mv (.k (.c (.b false)))⟩])
 (.seq (.seq (.reg [
     ⟨none, some 7, .mv (.k (.c (.i 0)))⟩])
  (.block 0 (.loop (.seq (.seq (.reg [
        ⟨none, some 17, .mv (.t 7)⟩,
        ⟨none, some 18, .bin .lss (.t 17) (.k (.c (.i 30)))⟩])
     (.cond (.t 18)
      (.skip)
      (.exit 0)))
    (.seq (.block 1 (.seq (.reg [
         ⟨none, some 22, .mv (.t 4)⟩,
         ⟨none, some 23, .ldn 2 (.t 3)⟩,
         ⟨none, some 24, .call n_impl_NextSide [.t 22, .t 23, .k (.c (.i 100))]⟩,
         ⟨none, some 21, .mv (.t 24)⟩,
         ⟨none, some 25, .ext 0 (.t 21)⟩,
         ⟨none, some 26, .ext 1 (.t 21)⟩,
         ⟨none, some 8, .mv (.t 25)⟩,
         ⟨none, some 9, .mv (.t 26)⟩])
      (.seq (.seq (.reg [
          ⟨none, some 27, .mv (.t 9)⟩,
          ⟨none, some 28, .mv (.t 4)⟩,
          ⟨none, some 29, .len (.t 28)⟩,
          ⟨none, some 30, .bin .gtr (.t 29) (.k (.c (.i 0)))⟩,
          ⟨none, some 31, .beq true (.t 27) (.t 30)⟩])
       (.cond (.t 31)
        (.seq (.reg [
            ⟨none, some 2, .mv (.k (.c (.b false)))⟩])
         (.ret))
        (.skip)))
      (.seq (.seq (.reg [
          ⟨none, some 32, .mv (.t 9)⟩,
          ⟨none, some 33, .not (.t 32)⟩])
       (.cond (.t 33)
        (.exit 0)
        (.skip)))
      (.seq (.reg [
         ⟨none, some 10, .mv (.k (.c (.i 0)))⟩])
      (.seq (.seq (.reg [
          ⟨none, some 11, .mv (.k (.c (.i 0)))⟩])
       (.block 2 (.loop (.seq (.seq (.reg [
             ⟨none, some 34, .mv (.t 11)⟩,
             ⟨none, some 35, .mv (.t 4)⟩,
             ⟨none, some 36, .len (.t 35)⟩,
             ⟨none, some 37, .bin .lss (.t 34) (.t 36)⟩])
          (.cond (.t 37)
           (.skip)
           (.exit 2)))
         (.seq (.block 3 (.reg [
             ⟨none, some 40, .mv (.t 10)⟩,
             ⟨none, some 41, .mv (.t 4)⟩,
             ⟨none, some 42, .mv (.t 11)⟩,
             ⟨none, some 43, .idx 4 (.t 41) (.t 42)⟩,
             ⟨none, some 44, .fld 0 (.t 43)⟩,
             ⟨none, some 45, .fld 0 (.t 44)⟩,
             ⟨none, some 46, .ld1 (.t 45)⟩,
             ⟨none, some 47, .call n_laws_btoi [.t 46]⟩,
             ⟨none, some 48, .bin .add (.t 40) (.t 47)⟩,
             ⟨none, some 10, .mv (.t 48)⟩]))
         (.reg [
           ⟨none, some 38, .mv (.t 11)⟩,
           ⟨none, some 39, .bin .add (.t 38) (.k (.c (.i 1)))⟩,
           ⟨none, some 11, .mv (.t 39)⟩]))))))
      (.seq (.seq (.reg [
          ⟨none, some 49, .mv (.t 8)⟩,
          ⟨none, some 50, .mv (.t 49)⟩,
          ⟨some (50, true), some 51, .mv (.t 10)⟩,
          ⟨some (50, true), some 52, .bin .eql (.t 51) (.k (.c (.i 0)))⟩,
          ⟨none, some 53, .pick (.t 50) (.t 52) (.k (.c (.b false)))⟩,
          ⟨none, some 54, .mv (.t 53)⟩,
          ⟨some (54, false), some 55, .mv (.t 8)⟩,
          ⟨some (54, false), some 56, .not (.t 55)⟩,
          ⟨some (54, false), some 57, .mv (.t 56)⟩,
          ⟨some (57, true), some 58, .mv (.t 10)⟩,
          ⟨some (57, true), some 59, .mv (.t 4)⟩,
          ⟨some (57, true), some 60, .len (.t 59)⟩,
          ⟨some (57, true), some 61, .bin .eql (.t 58) (.t 60)⟩,
          ⟨some (54, false), some 62, .pick (.t 57) (.t 61) (.k (.c (.b false)))⟩,
          ⟨none, some 63, .pick (.t 54) (.k (.c (.b true))) (.t 62)⟩])
       (.cond (.t 63)
        (.seq (.reg [
            ⟨none, some 2, .mv (.k (.c (.b false)))⟩])
         (.ret))
        (.skip)))
      (.seq (.reg [
         ⟨none, some 64, .ldn 2 (.t 3)⟩,
         ⟨none, some 65, .mv (.t 8)⟩,
         ⟨none, some 66, .call n_impl_NoteTurn [.t 64, .t 65]⟩,
         ⟨none, none, .stn 2 (.t 3) (.t 66)⟩])
      (.seq (.seq (.reg [
          ⟨none, some 67, .mv (.t 7)⟩,
          ⟨none, some 68, .bin .gtr (.t 67) (.k (.c (.i 0)))⟩,
          ⟨none, some 69, .mv (.t 68)⟩,
          ⟨some (69, true), some 70, .mv (.t 8)⟩,
          ⟨some (69, true), some 71, .mv (.t 6)⟩,
          ⟨some (69, true), some 72, .beq false (.t 70) (.t 71)⟩,
          ⟨none, some 73, .pick (.t 69) (.t 72) (.k (.c (.b false)))⟩])
       (.cond (.t 73)
        (.reg [
           ⟨none, some 74, .mv (.t 5)⟩,
           ⟨none, some 75, .bin .add (.t 74) (.k (.c (.i 1)))⟩,
           ⟨none, some 5, .mv (.t 75)⟩])
        (.reg [
           ⟨none, some 5, .mv (.k (.c (.i 1)))⟩])))
      (.seq (.reg [
         ⟨none, some 76, .mv (.t 8)⟩,
         ⟨none, some 6, .mv (.t 76)⟩])
      (.seq (.reg [
         ⟨none, some 77, .mv (.t 5)⟩,
         ⟨none, some 78, .bin .gtr (.t 77) (.k (.c (.i 3)))⟩,
         ⟨none, some 79, .mv (.t 78)⟩,
         ⟨some (79, true), some 80, .mv (.t 10)⟩,
         ⟨some (79, true), some 81, .bin .gtr (.t 80) (.k (.c (.i 0)))⟩,
         ⟨none, some 82, .pick (.t 79) (.t 81) (.k (.c (.b false)))⟩,
         ⟨none, some 83, .mv (.t 82)⟩,
         ⟨some (83, true), some 84, .mv (.t 10)⟩,
         ⟨some (83, true), some 85, .mv (.t 4)⟩,
         ⟨some (83, true), some 86, .len (.t 85)⟩,
         ⟨some (83, true), some 87, .bin .lss (.t 84) (.t 86)⟩,
         ⟨none, some 88, .pick (.t 83) (.t 87) (.k (.c (.b false)))⟩])
      (.cond (.t 88)
       (.seq (.reg [
           ⟨none, some 2, .mv (.k (.c (.b false)))⟩])
        (.ret))
       (.skip)))))))))))))
    (.reg [
      ⟨none, some 19, .mv (.t 7)⟩,
      ⟨none, some 20, .bin .add (.t 19) (.k (.c (.i 1)))⟩,
      ⟨none, some 7, .mv (.t 20)⟩]))))))
 (.seq (.reg [
    ⟨none, some 89, .ldn 2 (.t 3)⟩,
    ⟨none, some 90, .call n_impl_TurnOk [.t 89]⟩,
    ⟨none, some 2, .mv (.t 90)⟩])
 (.ret))))))))
theorem h_laws_FnTurns : Has Try.prog n_laws_FnTurns 91 c_laws_FnTurns [.t 2] := ⟨⟨Try.f8, _, Try.func8, rfl, rfl, by kernel_rfl, by kernel_rfl⟩⟩

def c_laws_FnSettled : SC :=
 .seq (.reg [
    ⟨none, some 2, .mv (.k (.c (.b false)))⟩])
 (.seq (.seq (.reg [
     ⟨none, some 10, .mv (.t 0)⟩,
     ⟨none, some 11, .call n_laws_big [.t 10]⟩])
  (.cond (.t 11)
   (.seq (.reg [
       ⟨none, some 2, .mv (.k (.c (.b true)))⟩])
    (.ret))
   (.skip)))
 (.seq (.reg [
    ⟨none, some 12, .mv (.t 0)⟩,
    ⟨none, some 13, .call n_spec_DrawBook [.t 12]⟩,
    ⟨none, some 3, .mv (.t 13)⟩])
 (.seq (.reg [
    ⟨none, some 14, .mv (.t 3)⟩,
    ⟨none, some 15, .call n_impl_BalancesOf [.t 14]⟩,
    ⟨none, some 4, .mv (.t 15)⟩])
 (.seq (.reg [
    ⟨none, some 16, .mv (.t 4)⟩,
    ⟨none, some 17, .call n_impl_SettleUp [.t 16, .k (.c (.i 50))]⟩,
    ⟨none, some 5, .mv (.t 17)⟩])
 (.seq (.reg [
    ⟨none, some 19, .mv (.t 3)⟩,
    ⟨none, some 20, .mv (.t 5)⟩,
    ⟨none, some 21, .call n_impl_PostEntries [.t 19, .t 20]⟩,
    ⟨none, some 18, .mv (.t 21)⟩,
    ⟨none, some 22, .ext 0 (.t 18)⟩,
    ⟨none, some 23, .ext 1 (.t 18)⟩,
    ⟨none, some 6, .mv (.t 22)⟩,
    ⟨none, some 7, .mv (.t 23)⟩])
 (.seq (.reg [
    ⟨none, some 24, .mv (.t 6)⟩,
    ⟨none, some 25, .call n_impl_BalancesOf [.t 24]⟩,
    ⟨none, some 8, .mv (.t 25)⟩])
 (.seq (.seq (.reg [
     ⟨none, some 9, .mv (.k (.c (.i 0)))⟩])
  (.block 0 (.loop (.seq (.seq (.reg [
        ⟨none, some 26, .mv (.t 9)⟩,
        ⟨none, some 27, .mv (.t 8)⟩,
        ⟨none, some 28, .len (.t 27)⟩,
        ⟨none, some 29, .bin .lss (.t 26) (.t 28)⟩])
     (.cond (.t 29)
      (.skip)
      (.exit 0)))
    (.seq (.block 1 (.seq (.reg [
         ⟨none, some 32, .mv (.t 8)⟩,
         ⟨none, some 33, .mv (.t 9)⟩,
         ⟨none, some 34, .idx 1 (.t 32) (.t 33)⟩,
         ⟨none, some 35, .ld1 (.t 34)⟩,
         ⟨none, some 36, .bin .neq (.t 35) (.k (.c (.i 0)))⟩])
      (.cond (.t 36)
       (.seq (.reg [
           ⟨none, some 2, .mv (.k (.c (.b false)))⟩])
        (.ret))
       (.skip))))
    (.reg [
      ⟨none, some 30, .mv (.t 9)⟩,
      ⟨none, some 31, .bin .add (.t 30) (.k (.c (.i 1)))⟩,
      ⟨none, some 9, .mv (.t 31)⟩]))))))
 (.seq (.reg [
    ⟨none, some 37, .mv (.t 7)⟩,
    ⟨none, some 38, .mv (.t 37)⟩,
    ⟨some (38, true), some 39, .mv (.t 5)⟩,
    ⟨some (38, true), some 40, .len (.t 39)⟩,
    ⟨some (38, true), some 41, .bin .lss (.t 40) (.k (.c (.i 12)))⟩,
    ⟨none, some 42, .pick (.t 38) (.t 41) (.k (.c (.b false)))⟩,
    ⟨none, some 43, .mv (.t 42)⟩,
    ⟨some (43, true), some 44, .mv (.t 8)⟩,
    ⟨some (43, true), some 45, .len (.t 44)⟩,
    ⟨some (43, true), some 46, .bin .eql (.t 45) (.k (.c (.i 12)))⟩,
    ⟨none, some 47, .pick (.t 43) (.t 46) (.k (.c (.b false)))⟩,
    ⟨none, some 2, .mv (.t 47)⟩])
 (.ret)))))))))
theorem h_laws_FnSettled : Has Try.prog n_laws_FnSettled 48 c_laws_FnSettled [.t 2] := ⟨⟨Try.f9, _, Try.func9, rfl, rfl, by kernel_rfl, by kernel_rfl⟩⟩

def c_laws_FnExactPostEntries : SC :=
 .seq (.reg [
    ⟨none, some 4, .mv (.k (.c (.b false)))⟩])
 (.seq (.reg [
    ⟨none, some 5, .mv (.k (.c (.i 1048576)))⟩])
 (.seq (.reg [
    ⟨none, some 17, .mv (.t 0)⟩,
    ⟨none, some 18, .mv (.t 5)⟩,
    ⟨none, some 19, .call n_laws_szEntryS [.t 17, .t 18]⟩,
    ⟨none, some 5, .mv (.t 19)⟩])
 (.seq (.seq (.reg [
     ⟨none, some 20, .mv (.t 5)⟩,
     ⟨none, some 21, .bin .lss (.t 20) (.k (.c (.i 0)))⟩])
  (.cond (.t 21)
   (.seq (.reg [
       ⟨none, some 4, .mv (.k (.c (.b true)))⟩])
    (.ret))
   (.skip)))
 (.seq (.reg [
    ⟨none, some 22, .mv (.t 1)⟩,
    ⟨none, some 23, .mv (.t 5)⟩,
    ⟨none, some 24, .call n_laws_szEntryS [.t 22, .t 23]⟩,
    ⟨none, some 5, .mv (.t 24)⟩])
 (.seq (.seq (.reg [
     ⟨none, some 25, .mv (.t 5)⟩,
     ⟨none, some 26, .bin .lss (.t 25) (.k (.c (.i 0)))⟩])
  (.cond (.t 26)
   (.seq (.reg [
       ⟨none, some 4, .mv (.k (.c (.b true)))⟩])
    (.ret))
   (.skip)))
 (.seq (.reg [
    ⟨none, some 28, .mv (.t 0)⟩,
    ⟨none, some 29, .call n_laws_toEntryS [.t 28]⟩,
    ⟨none, some 30, .mv (.t 1)⟩,
    ⟨none, some 31, .call n_laws_toEntryS [.t 30]⟩,
    ⟨none, some 32, .call n_spec_PostEntries [.t 29, .t 31]⟩,
    ⟨none, some 27, .mv (.t 32)⟩,
    ⟨none, some 33, .ext 0 (.t 27)⟩,
    ⟨none, some 34, .ext 1 (.t 27)⟩,
    ⟨none, some 6, .mv (.t 33)⟩,
    ⟨none, some 7, .mv (.t 34)⟩])
 (.seq (.reg [
    ⟨none, some 35, .mv (.t 0)⟩,
    ⟨none, some 36, .call n_laws_toEntryS [.t 35]⟩,
    ⟨none, some 8, .mv (.t 36)⟩])
 (.seq (.reg [
    ⟨none, some 37, .mv (.t 1)⟩,
    ⟨none, some 38, .call n_laws_toEntryS [.t 37]⟩,
    ⟨none, some 9, .mv (.t 38)⟩])
 (.seq (.reg [
    ⟨none, some 40, .mv (.t 8)⟩,
    ⟨none, some 41, .mv (.t 9)⟩,
    ⟨none, some 42, .call n_impl_PostEntries [.t 40, .t 41]⟩,
    ⟨none, some 39, .mv (.t 42)⟩,
    ⟨none, some 43, .ext 0 (.t 39)⟩,
    ⟨none, some 44, .ext 1 (.t 39)⟩,
    ⟨none, some 10, .mv (.t 43)⟩,
    ⟨none, some 11, .mv (.t 44)⟩])
 (.seq (.seq (.reg [
     ⟨none, some 45, .mv (.t 10)⟩,
     ⟨none, some 46, .mv (.t 6)⟩,
     ⟨none, some 47, .call n_laws_eqEntryS [.t 45, .t 46]⟩,
     ⟨none, some 48, .not (.t 47)⟩,
     ⟨none, some 49, .mv (.t 48)⟩,
     ⟨some (49, false), some 50, .mv (.t 11)⟩,
     ⟨some (49, false), some 51, .mv (.t 7)⟩,
     ⟨some (49, false), some 52, .beq true (.t 50) (.t 51)⟩,
     ⟨none, some 53, .pick (.t 49) (.k (.c (.b true))) (.t 52)⟩])
  (.cond (.t 53)
   (.seq (.reg [
       ⟨none, some 4, .mv (.k (.c (.b false)))⟩])
    (.ret))
   (.skip)))
 (.seq (.seq (.reg [
     ⟨none, some 54, .mv (.t 8)⟩,
     ⟨none, some 55, .mv (.t 0)⟩,
     ⟨none, some 56, .call n_laws_toEntryS [.t 55]⟩,
     ⟨none, some 57, .call n_laws_eqEntryS [.t 54, .t 56]⟩,
     ⟨none, some 58, .not (.t 57)⟩])
  (.cond (.t 58)
   (.seq (.reg [
       ⟨none, some 4, .mv (.k (.c (.b false)))⟩])
    (.ret))
   (.skip)))
 (.seq (.seq (.reg [
     ⟨none, some 59, .mv (.t 9)⟩,
     ⟨none, some 60, .mv (.t 1)⟩,
     ⟨none, some 61, .call n_laws_toEntryS [.t 60]⟩,
     ⟨none, some 62, .call n_laws_eqEntryS [.t 59, .t 61]⟩,
     ⟨none, some 63, .not (.t 62)⟩])
  (.cond (.t 63)
   (.seq (.reg [
       ⟨none, some 4, .mv (.k (.c (.b false)))⟩])
    (.ret))
   (.skip)))
 (.seq (.reg [
    ⟨none, some 12, .mv (.k (.c (.i 1)))⟩])
 (.seq (.reg [
    ⟨none, some 64, .mv (.t 8)⟩,
    ⟨none, some 65, .mv (.t 12)⟩,
    ⟨none, some 66, .call n_laws_markEntryS [.t 64, .t 65]⟩,
    ⟨none, some 12, .mv (.t 66)⟩])
 (.seq (.reg [
    ⟨none, some 67, .mv (.t 9)⟩,
    ⟨none, some 68, .mv (.t 12)⟩,
    ⟨none, some 69, .call n_laws_markEntryS [.t 67, .t 68]⟩,
    ⟨none, some 12, .mv (.t 69)⟩])
 (.seq (.seq (.reg [
     ⟨none, some 70, .mv (.t 12)⟩,
     ⟨none, some 71, .bin .lss (.t 70) (.k (.c (.i 0)))⟩,
     ⟨none, some 72, .mv (.t 71)⟩,
     ⟨some (72, false), some 73, .mv (.t 10)⟩,
     ⟨some (72, false), some 74, .mv (.t 6)⟩,
     ⟨some (72, false), some 75, .call n_laws_eqEntryS [.t 73, .t 74]⟩,
     ⟨some (72, false), some 76, .not (.t 75)⟩,
     ⟨none, some 77, .pick (.t 72) (.k (.c (.b true))) (.t 76)⟩,
     ⟨none, some 78, .mv (.t 77)⟩,
     ⟨some (78, false), some 79, .mv (.t 11)⟩,
     ⟨some (78, false), some 80, .mv (.t 7)⟩,
     ⟨some (78, false), some 81, .beq true (.t 79) (.t 80)⟩,
     ⟨none, some 82, .pick (.t 78) (.k (.c (.b true))) (.t 81)⟩])
  (.cond (.t 82)
   (.seq (.reg [
       ⟨none, some 4, .mv (.k (.c (.b false)))⟩])
    (.ret))
   (.skip)))
 (.seq (.reg [
    ⟨none, some 13, .mv (.k (.c (.i 1)))⟩])
 (.seq (.reg [
    ⟨none, some 83, .mv (.t 10)⟩,
    ⟨none, some 84, .mv (.t 13)⟩,
    ⟨none, some 85, .call n_laws_markEntryS [.t 83, .t 84]⟩,
    ⟨none, some 13, .mv (.t 85)⟩])
 (.seq (.reg [
    ⟨none, some 14, .mv (.k (.c (.i 1)))⟩])
 (.seq (.reg [
    ⟨none, some 86, .mv (.t 10)⟩,
    ⟨none, some 87, .mv (.t 14)⟩,
    ⟨none, some 88, .call n_laws_heldEntryS [.t 86, .t 87]⟩,
    ⟨none, some 14, .mv (.t 88)⟩])
 (.seq (.seq (.reg [
     ⟨none, some 89, .mv (.t 14)⟩,
     ⟨none, some 90, .bin .lss (.t 89) (.k (.c (.i 0)))⟩])
  (.cond (.t 90)
   (.seq (.reg [
       ⟨none, some 4, .mv (.k (.c (.b false)))⟩])
    (.ret))
   (.skip)))
 (.seq (.seq (.reg [
     ⟨none, some 91, .mv (.t 14)⟩,
     ⟨none, some 92, .mv (.t 13)⟩,
     ⟨none, some 93, .bin .neq (.t 91) (.t 92)⟩])
  (.cond (.t 93)
   (.seq (.reg [
       ⟨none, some 4, .mv (.k (.c (.b false)))⟩])
    (.ret))
   (.skip)))
 (.seq (.reg [
    ⟨none, some 95, .mv (.t 0)⟩,
    ⟨none, some 96, .call n_laws_toEntryS [.t 95]⟩,
    ⟨none, some 97, .mv (.t 1)⟩,
    ⟨none, some 98, .call n_laws_toEntryS [.t 97]⟩,
    ⟨none, some 99, .call n_impl_PostEntries [.t 96, .t 98]⟩,
    ⟨none, some 94, .mv (.t 99)⟩,
    ⟨none, some 100, .ext 0 (.t 94)⟩,
    ⟨none, some 101, .ext 1 (.t 94)⟩,
    ⟨none, some 15, .mv (.t 100)⟩,
    ⟨none, some 16, .mv (.t 101)⟩])
 (.seq (.seq (.reg [
     ⟨none, some 102, .mv (.t 15)⟩,
     ⟨none, some 103, .mv (.t 6)⟩,
     ⟨none, some 104, .call n_laws_eqEntryS [.t 102, .t 103]⟩,
     ⟨none, some 105, .not (.t 104)⟩,
     ⟨none, some 106, .mv (.t 105)⟩,
     ⟨some (106, false), some 107, .mv (.t 16)⟩,
     ⟨some (106, false), some 108, .mv (.t 7)⟩,
     ⟨some (106, false), some 109, .beq true (.t 107) (.t 108)⟩,
     ⟨none, some 110, .pick (.t 106) (.k (.c (.b true))) (.t 109)⟩])
  (.cond (.t 110)
   (.seq (.reg [
       ⟨none, some 4, .mv (.k (.c (.b false)))⟩])
    (.ret))
   (.skip)))
 (.seq (.reg [
    ⟨none, some 14, .mv (.k (.c (.i 1)))⟩])
 (.seq (.reg [
    ⟨none, some 111, .mv (.t 10)⟩,
    ⟨none, some 112, .mv (.t 14)⟩,
    ⟨none, some 113, .call n_laws_heldEntryS [.t 111, .t 112]⟩,
    ⟨none, some 14, .mv (.t 113)⟩])
 (.seq (.seq (.reg [
     ⟨none, some 114, .mv (.t 14)⟩,
     ⟨none, some 115, .bin .lss (.t 114) (.k (.c (.i 0)))⟩])
  (.cond (.t 115)
   (.seq (.reg [
       ⟨none, some 4, .mv (.k (.c (.b false)))⟩])
    (.ret))
   (.skip)))
 (.seq (.seq (.reg [
     ⟨none, some 116, .mv (.t 14)⟩,
     ⟨none, some 117, .mv (.t 13)⟩,
     ⟨none, some 118, .bin .neq (.t 116) (.t 117)⟩])
  (.cond (.t 118)
   (.seq (.reg [
       ⟨none, some 4, .mv (.k (.c (.b false)))⟩])
    (.ret))
   (.skip)))
 (.seq (.reg [
    ⟨none, some 4, .mv (.k (.c (.b true)))⟩])
 (.ret))))))))))))))))))))))))))))))
theorem h_laws_FnExactPostEntries : Has Try.prog n_laws_FnExactPostEntries 119 c_laws_FnExactPostEntries [.t 4] := ⟨⟨Try.f10, _, Try.func10, rfl, rfl, by kernel_rfl, by kernel_rfl⟩⟩

def c_laws_FnExactSettleUp : SC :=
 .seq (.reg [
    ⟨none, some 4, .mv (.k (.c (.b false)))⟩])
 (.seq (.seq (.reg [
     ⟨none, some 12, .mv (.t 0)⟩,
     ⟨none, some 13, .len (.t 12)⟩,
     ⟨none, some 14, .bin .gtr (.t 13) (.k (.c (.i 1048576)))⟩])
  (.cond (.t 14)
   (.seq (.reg [
       ⟨none, some 4, .mv (.k (.c (.b true)))⟩])
    (.ret))
   (.skip)))
 (.seq (.reg [
    ⟨none, some 15, .mv (.t 0)⟩,
    ⟨none, some 16, .call n_laws_toIntS [.t 15]⟩,
    ⟨none, some 17, .mv (.t 1)⟩,
    ⟨none, some 18, .call n_spec_SettleUp [.t 16, .t 17]⟩,
    ⟨none, some 5, .mv (.t 18)⟩])
 (.seq (.reg [
    ⟨none, some 19, .mv (.t 0)⟩,
    ⟨none, some 20, .call n_laws_toIntS [.t 19]⟩,
    ⟨none, some 6, .mv (.t 20)⟩])
 (.seq (.reg [
    ⟨none, some 21, .mv (.t 6)⟩,
    ⟨none, some 22, .mv (.t 1)⟩,
    ⟨none, some 23, .call n_impl_SettleUp [.t 21, .t 22]⟩,
    ⟨none, some 7, .mv (.t 23)⟩])
 (.seq (.seq (.reg [
     ⟨none, some 24, .mv (.t 7)⟩,
     ⟨none, some 25, .mv (.t 5)⟩,
     ⟨none, some 26, .call n_laws_eqEntryS [.t 24, .t 25]⟩,
     ⟨none, some 27, .not (.t 26)⟩])
  (.cond (.t 27)
   (.seq (.reg [
       ⟨none, some 4, .mv (.k (.c (.b false)))⟩])
    (.ret))
   (.skip)))
 (.seq (.seq (.reg [
     ⟨none, some 28, .mv (.t 6)⟩,
     ⟨none, some 29, .mv (.t 0)⟩,
     ⟨none, some 30, .call n_laws_toIntS [.t 29]⟩,
     ⟨none, some 31, .call n_laws_eqIntS [.t 28, .t 30]⟩,
     ⟨none, some 32, .not (.t 31)⟩])
  (.cond (.t 32)
   (.seq (.reg [
       ⟨none, some 4, .mv (.k (.c (.b false)))⟩])
    (.ret))
   (.skip)))
 (.seq (.reg [
    ⟨none, some 8, .mv (.k (.c (.i 1)))⟩])
 (.seq (.reg [
    ⟨none, some 33, .mv (.t 6)⟩,
    ⟨none, some 34, .mv (.t 8)⟩,
    ⟨none, some 35, .call n_laws_markIntS [.t 33, .t 34]⟩,
    ⟨none, some 8, .mv (.t 35)⟩])
 (.seq (.seq (.reg [
     ⟨none, some 36, .mv (.t 8)⟩,
     ⟨none, some 37, .bin .lss (.t 36) (.k (.c (.i 0)))⟩,
     ⟨none, some 38, .mv (.t 37)⟩,
     ⟨some (38, false), some 39, .mv (.t 7)⟩,
     ⟨some (38, false), some 40, .mv (.t 5)⟩,
     ⟨some (38, false), some 41, .call n_laws_eqEntryS [.t 39, .t 40]⟩,
     ⟨some (38, false), some 42, .not (.t 41)⟩,
     ⟨none, some 43, .pick (.t 38) (.k (.c (.b true))) (.t 42)⟩])
  (.cond (.t 43)
   (.seq (.reg [
       ⟨none, some 4, .mv (.k (.c (.b false)))⟩])
    (.ret))
   (.skip)))
 (.seq (.reg [
    ⟨none, some 9, .mv (.k (.c (.i 1)))⟩])
 (.seq (.reg [
    ⟨none, some 44, .mv (.t 7)⟩,
    ⟨none, some 45, .mv (.t 9)⟩,
    ⟨none, some 46, .call n_laws_markEntryS [.t 44, .t 45]⟩,
    ⟨none, some 9, .mv (.t 46)⟩])
 (.seq (.reg [
    ⟨none, some 10, .mv (.k (.c (.i 1)))⟩])
 (.seq (.reg [
    ⟨none, some 47, .mv (.t 7)⟩,
    ⟨none, some 48, .mv (.t 10)⟩,
    ⟨none, some 49, .call n_laws_heldEntryS [.t 47, .t 48]⟩,
    ⟨none, some 10, .mv (.t 49)⟩])
 (.seq (.seq (.reg [
     ⟨none, some 50, .mv (.t 10)⟩,
     ⟨none, some 51, .bin .lss (.t 50) (.k (.c (.i 0)))⟩])
  (.cond (.t 51)
   (.seq (.reg [
       ⟨none, some 4, .mv (.k (.c (.b false)))⟩])
    (.ret))
   (.skip)))
 (.seq (.seq (.reg [
     ⟨none, some 52, .mv (.t 10)⟩,
     ⟨none, some 53, .mv (.t 9)⟩,
     ⟨none, some 54, .bin .neq (.t 52) (.t 53)⟩])
  (.cond (.t 54)
   (.seq (.reg [
       ⟨none, some 4, .mv (.k (.c (.b false)))⟩])
    (.ret))
   (.skip)))
 (.seq (.reg [
    ⟨none, some 55, .mv (.t 0)⟩,
    ⟨none, some 56, .call n_laws_toIntS [.t 55]⟩,
    ⟨none, some 57, .mv (.t 1)⟩,
    ⟨none, some 58, .call n_impl_SettleUp [.t 56, .t 57]⟩,
    ⟨none, some 11, .mv (.t 58)⟩])
 (.seq (.seq (.reg [
     ⟨none, some 59, .mv (.t 11)⟩,
     ⟨none, some 60, .mv (.t 5)⟩,
     ⟨none, some 61, .call n_laws_eqEntryS [.t 59, .t 60]⟩,
     ⟨none, some 62, .not (.t 61)⟩])
  (.cond (.t 62)
   (.seq (.reg [
       ⟨none, some 4, .mv (.k (.c (.b false)))⟩])
    (.ret))
   (.skip)))
 (.seq (.reg [
    ⟨none, some 10, .mv (.k (.c (.i 1)))⟩])
 (.seq (.reg [
    ⟨none, some 63, .mv (.t 7)⟩,
    ⟨none, some 64, .mv (.t 10)⟩,
    ⟨none, some 65, .call n_laws_heldEntryS [.t 63, .t 64]⟩,
    ⟨none, some 10, .mv (.t 65)⟩])
 (.seq (.seq (.reg [
     ⟨none, some 66, .mv (.t 10)⟩,
     ⟨none, some 67, .bin .lss (.t 66) (.k (.c (.i 0)))⟩])
  (.cond (.t 67)
   (.seq (.reg [
       ⟨none, some 4, .mv (.k (.c (.b false)))⟩])
    (.ret))
   (.skip)))
 (.seq (.seq (.reg [
     ⟨none, some 68, .mv (.t 10)⟩,
     ⟨none, some 69, .mv (.t 9)⟩,
     ⟨none, some 70, .bin .neq (.t 68) (.t 69)⟩])
  (.cond (.t 70)
   (.seq (.reg [
       ⟨none, some 4, .mv (.k (.c (.b false)))⟩])
    (.ret))
   (.skip)))
 (.seq (.reg [
    ⟨none, some 4, .mv (.k (.c (.b true)))⟩])
 (.ret)))))))))))))))))))))))
theorem h_laws_FnExactSettleUp : Has Try.prog n_laws_FnExactSettleUp 71 c_laws_FnExactSettleUp [.t 4] := ⟨⟨Try.f11, _, Try.func11, rfl, rfl, by kernel_rfl, by kernel_rfl⟩⟩

def c_laws_FnExactMoverOk : SC :=
 .seq (.reg [
    ⟨none, some 2, .box 3 (.t 0)⟩,
    ⟨none, some 3, .box 2 (.t 1)⟩,
    ⟨none, some 4, .mv (.k (.c (.b false)))⟩])
 (.seq (.reg [
    ⟨none, some 5, .mv (.k (.c (.i 1048576)))⟩])
 (.seq (.reg [
    ⟨none, some 9, .ldn 3 (.t 2)⟩,
    ⟨none, some 10, .mv (.t 5)⟩,
    ⟨none, some 11, .call n_laws_szMover [.t 9, .t 10]⟩,
    ⟨none, some 5, .mv (.t 11)⟩])
 (.seq (.seq (.reg [
     ⟨none, some 12, .mv (.t 5)⟩,
     ⟨none, some 13, .bin .lss (.t 12) (.k (.c (.i 0)))⟩])
  (.cond (.t 13)
   (.seq (.reg [
       ⟨none, some 4, .mv (.k (.c (.b true)))⟩])
    (.ret))
   (.skip)))
 (.seq (.regq [
    ⟨none, some 14, .ldn 3 (.t 2)⟩,
    ⟨none, some 15, .call n_laws_toMover [.t 14]⟩,
    ⟨none, some 16, .ldn 2 (.t 3)⟩,
    ⟨none, some 17, .call n_laws_toWay [.t 16]⟩,
    ⟨none, some 18, .call n_spec_MoverOk [.t 15, .t 17]⟩,
    ⟨none, some 6, .mv (.t 18)⟩])
 (.seq (.reg [
    ⟨none, some 19, .ldn 3 (.t 2)⟩,
    ⟨none, some 20, .call n_laws_toMover [.t 19]⟩,
    ⟨none, some 7, .alloc [.c (.b false), .nil, .c (.i 0)]⟩,
    ⟨none, none, .stn 3 (.t 7) (.t 20)⟩])
 (.seq (.regq [
    ⟨none, some 21, .ldn 3 (.t 7)⟩,
    ⟨none, some 22, .ldn 2 (.t 3)⟩,
    ⟨none, some 23, .call n_laws_toWay [.t 22]⟩,
    ⟨none, some 24, .call n_impl_MoverOk [.t 21, .t 23]⟩,
    ⟨none, some 8, .mv (.t 24)⟩])
 (.seq (.seq (.reg [
     ⟨none, some 25, .mv (.t 8)⟩,
     ⟨none, some 26, .mv (.t 6)⟩,
     ⟨none, some 27, .beq true (.t 25) (.t 26)⟩])
  (.cond (.t 27)
   (.seq (.reg [
       ⟨none, some 4, .mv (.k (.c (.b false)))⟩])
    (.ret))
   (.skip)))
 (.seq (.seq (.regq [
     ⟨none, some 28, .ldn 3 (.t 7)⟩,
     ⟨none, some 29, .ldn 3 (.t 2)⟩,
     ⟨none, some 30, .call n_laws_toMover [.t 29]⟩,
     ⟨none, some 31, .call n_laws_eqMover [.t 28, .t 30]⟩,
     ⟨none, some 32, .not (.t 31)⟩])
  (.cond (.t 32)
   (.seq (.reg [
       ⟨none, some 4, .mv (.k (.c (.b false)))⟩])
    (.ret))
   (.skip)))
 (.seq (.reg [
    ⟨none, some 4, .mv (.k (.c (.b true)))⟩])
 (.ret))))))))))
theorem h_laws_FnExactMoverOk : Has Try.prog n_laws_FnExactMoverOk 33 c_laws_FnExactMoverOk [.t 4] := ⟨⟨Try.f12, _, Try.func12, rfl, rfl, by kernel_rfl, by kernel_rfl⟩⟩

def c_laws_FnExactAtEnd : SC :=
 .seq (.reg [
    ⟨none, some 2, .box 3 (.t 0)⟩,
    ⟨none, some 3, .box 2 (.t 1)⟩,
    ⟨none, some 4, .mv (.k (.c (.b false)))⟩])
 (.seq (.reg [
    ⟨none, some 5, .mv (.k (.c (.i 1048576)))⟩])
 (.seq (.reg [
    ⟨none, some 9, .ldn 3 (.t 2)⟩,
    ⟨none, some 10, .mv (.t 5)⟩,
    ⟨none, some 11, .call n_laws_szMover [.t 9, .t 10]⟩,
    ⟨none, some 5, .mv (.t 11)⟩])
 (.seq (.seq (.reg [
     ⟨none, some 12, .mv (.t 5)⟩,
     ⟨none, some 13, .bin .lss (.t 12) (.k (.c (.i 0)))⟩])
  (.cond (.t 13)
   (.seq (.reg [
       ⟨none, some 4, .mv (.k (.c (.b true)))⟩])
    (.ret))
   (.skip)))
 (.seq (.regq [
    ⟨none, some 14, .ldn 3 (.t 2)⟩,
    ⟨none, some 15, .call n_laws_toMover [.t 14]⟩,
    ⟨none, some 16, .ldn 2 (.t 3)⟩,
    ⟨none, some 17, .call n_laws_toWay [.t 16]⟩,
    ⟨none, some 18, .call n_spec_AtEnd [.t 15, .t 17]⟩,
    ⟨none, some 6, .mv (.t 18)⟩])
 (.seq (.reg [
    ⟨none, some 19, .ldn 3 (.t 2)⟩,
    ⟨none, some 20, .call n_laws_toMover [.t 19]⟩,
    ⟨none, some 7, .alloc [.c (.b false), .nil, .c (.i 0)]⟩,
    ⟨none, none, .stn 3 (.t 7) (.t 20)⟩])
 (.seq (.regq [
    ⟨none, some 21, .ldn 3 (.t 7)⟩,
    ⟨none, some 22, .ldn 2 (.t 3)⟩,
    ⟨none, some 23, .call n_laws_toWay [.t 22]⟩,
    ⟨none, some 24, .call n_impl_AtEnd [.t 21, .t 23]⟩,
    ⟨none, some 8, .mv (.t 24)⟩])
 (.seq (.seq (.reg [
     ⟨none, some 25, .mv (.t 8)⟩,
     ⟨none, some 26, .mv (.t 6)⟩,
     ⟨none, some 27, .beq true (.t 25) (.t 26)⟩])
  (.cond (.t 27)
   (.seq (.reg [
       ⟨none, some 4, .mv (.k (.c (.b false)))⟩])
    (.ret))
   (.skip)))
 (.seq (.seq (.regq [
     ⟨none, some 28, .ldn 3 (.t 7)⟩,
     ⟨none, some 29, .ldn 3 (.t 2)⟩,
     ⟨none, some 30, .call n_laws_toMover [.t 29]⟩,
     ⟨none, some 31, .call n_laws_eqMover [.t 28, .t 30]⟩,
     ⟨none, some 32, .not (.t 31)⟩])
  (.cond (.t 32)
   (.seq (.reg [
       ⟨none, some 4, .mv (.k (.c (.b false)))⟩])
    (.ret))
   (.skip)))
 (.seq (.reg [
    ⟨none, some 4, .mv (.k (.c (.b true)))⟩])
 (.ret))))))))))
theorem h_laws_FnExactAtEnd : Has Try.prog n_laws_FnExactAtEnd 33 c_laws_FnExactAtEnd [.t 4] := ⟨⟨Try.f13, _, Try.func13, rfl, rfl, by kernel_rfl, by kernel_rfl⟩⟩

def c_laws_FnExactPaceOf : SC :=
 .seq (.reg [
    ⟨none, some 2, .box 2 (.t 0)⟩,
    ⟨none, some 4, .mv (.k (.c (.b false)))⟩])
 (.seq (.reg [
    ⟨none, some 5, .mv (.k (.c (.i 1048576)))⟩])
 (.seq (.reg [
    ⟨none, some 9, .ldn 2 (.t 2)⟩,
    ⟨none, some 10, .mv (.t 5)⟩,
    ⟨none, some 11, .call n_laws_szTrain [.t 9, .t 10]⟩,
    ⟨none, some 5, .mv (.t 11)⟩])
 (.seq (.seq (.reg [
     ⟨none, some 12, .mv (.t 5)⟩,
     ⟨none, some 13, .bin .lss (.t 12) (.k (.c (.i 0)))⟩])
  (.cond (.t 13)
   (.seq (.reg [
       ⟨none, some 4, .mv (.k (.c (.b true)))⟩])
    (.ret))
   (.skip)))
 (.seq (.reg [
    ⟨none, some 14, .ldn 2 (.t 2)⟩,
    ⟨none, some 15, .call n_laws_toTrain [.t 14]⟩,
    ⟨none, some 16, .mv (.t 1)⟩,
    ⟨none, some 17, .call n_spec_PaceOf [.t 15, .t 16]⟩,
    ⟨none, some 6, .mv (.t 17)⟩])
 (.seq (.reg [
    ⟨none, some 18, .ldn 2 (.t 2)⟩,
    ⟨none, some 19, .call n_laws_toTrain [.t 18]⟩,
    ⟨none, some 7, .alloc [.c (.b false), .nil]⟩,
    ⟨none, none, .stn 2 (.t 7) (.t 19)⟩])
 (.seq (.reg [
    ⟨none, some 20, .ldn 2 (.t 7)⟩,
    ⟨none, some 21, .mv (.t 1)⟩,
    ⟨none, some 22, .call n_impl_PaceOf [.t 20, .t 21]⟩,
    ⟨none, some 8, .mv (.t 22)⟩])
 (.seq (.seq (.reg [
     ⟨none, some 23, .mv (.t 8)⟩,
     ⟨none, some 24, .mv (.t 6)⟩,
     ⟨none, some 25, .bin .neq (.t 23) (.t 24)⟩])
  (.cond (.t 25)
   (.seq (.reg [
       ⟨none, some 4, .mv (.k (.c (.b false)))⟩])
    (.ret))
   (.skip)))
 (.seq (.seq (.regq [
     ⟨none, some 26, .ldn 2 (.t 7)⟩,
     ⟨none, some 27, .ldn 2 (.t 2)⟩,
     ⟨none, some 28, .call n_laws_toTrain [.t 27]⟩,
     ⟨none, some 29, .call n_laws_eqTrain [.t 26, .t 28]⟩,
     ⟨none, some 30, .not (.t 29)⟩])
  (.cond (.t 30)
   (.seq (.reg [
       ⟨none, some 4, .mv (.k (.c (.b false)))⟩])
    (.ret))
   (.skip)))
 (.seq (.reg [
    ⟨none, some 4, .mv (.k (.c (.b true)))⟩])
 (.ret))))))))))
theorem h_laws_FnExactPaceOf : Has Try.prog n_laws_FnExactPaceOf 31 c_laws_FnExactPaceOf [.t 4] := ⟨⟨Try.f14, _, Try.func14, rfl, rfl, by kernel_rfl, by kernel_rfl⟩⟩

def c_laws_FnExactDepthIn : SC :=
 .seq (.reg [
    ⟨none, some 2, .box 2 (.t 0)⟩,
    ⟨none, some 3, .box 3 (.t 1)⟩,
    ⟨none, some 4, .mv (.k (.c (.b false)))⟩])
 (.seq (.reg [
    ⟨none, some 5, .mv (.k (.c (.i 1048576)))⟩])
 (.seq (.reg [
    ⟨none, some 9, .ldn 3 (.t 3)⟩,
    ⟨none, some 10, .mv (.t 5)⟩,
    ⟨none, some 11, .call n_laws_szReach [.t 9, .t 10]⟩,
    ⟨none, some 5, .mv (.t 11)⟩])
 (.seq (.seq (.reg [
     ⟨none, some 12, .mv (.t 5)⟩,
     ⟨none, some 13, .bin .lss (.t 12) (.k (.c (.i 0)))⟩])
  (.cond (.t 13)
   (.seq (.reg [
       ⟨none, some 4, .mv (.k (.c (.b true)))⟩])
    (.ret))
   (.skip)))
 (.seq (.regq [
    ⟨none, some 14, .ldn 2 (.t 2)⟩,
    ⟨none, some 15, .call n_laws_toWay [.t 14]⟩,
    ⟨none, some 16, .ldn 3 (.t 3)⟩,
    ⟨none, some 17, .call n_laws_toReach [.t 16]⟩,
    ⟨none, some 18, .call n_spec_DepthIn [.t 15, .t 17]⟩,
    ⟨none, some 6, .mv (.t 18)⟩])
 (.seq (.reg [
    ⟨none, some 19, .ldn 3 (.t 3)⟩,
    ⟨none, some 20, .call n_laws_toReach [.t 19]⟩,
    ⟨none, some 7, .alloc [.nil, .c (.i 0), .nil]⟩,
    ⟨none, none, .stn 3 (.t 7) (.t 20)⟩])
 (.seq (.regq [
    ⟨none, some 21, .ldn 2 (.t 2)⟩,
    ⟨none, some 22, .call n_laws_toWay [.t 21]⟩,
    ⟨none, some 23, .ldn 3 (.t 7)⟩,
    ⟨none, some 24, .call n_impl_DepthIn [.t 22, .t 23]⟩,
    ⟨none, some 8, .mv (.t 24)⟩])
 (.seq (.seq (.reg [
     ⟨none, some 25, .mv (.t 8)⟩,
     ⟨none, some 26, .mv (.t 6)⟩,
     ⟨none, some 27, .bin .neq (.t 25) (.t 26)⟩])
  (.cond (.t 27)
   (.seq (.reg [
       ⟨none, some 4, .mv (.k (.c (.b false)))⟩])
    (.ret))
   (.skip)))
 (.seq (.seq (.regq [
     ⟨none, some 28, .ldn 3 (.t 7)⟩,
     ⟨none, some 29, .ldn 3 (.t 3)⟩,
     ⟨none, some 30, .call n_laws_toReach [.t 29]⟩,
     ⟨none, some 31, .call n_laws_eqReach [.t 28, .t 30]⟩,
     ⟨none, some 32, .not (.t 31)⟩])
  (.cond (.t 32)
   (.seq (.reg [
       ⟨none, some 4, .mv (.k (.c (.b false)))⟩])
    (.ret))
   (.skip)))
 (.seq (.reg [
    ⟨none, some 4, .mv (.k (.c (.b true)))⟩])
 (.ret))))))))))
theorem h_laws_FnExactDepthIn : Has Try.prog n_laws_FnExactDepthIn 33 c_laws_FnExactDepthIn [.t 4] := ⟨⟨Try.f15, _, Try.func15, rfl, rfl, by kernel_rfl, by kernel_rfl⟩⟩

def c_laws_FnExactTollOf : SC :=
 .seq (.reg [
    ⟨none, some 2, .box 4 (.t 0)⟩,
    ⟨none, some 3, .box 2 (.t 1)⟩,
    ⟨none, some 4, .mv (.k (.c (.b false)))⟩])
 (.seq (.reg [
    ⟨none, some 5, .mv (.k (.c (.i 1048576)))⟩])
 (.seq (.reg [
    ⟨none, some 10, .ldn 4 (.t 2)⟩,
    ⟨none, some 11, .mv (.t 5)⟩,
    ⟨none, some 12, .call n_laws_szTariff [.t 10, .t 11]⟩,
    ⟨none, some 5, .mv (.t 12)⟩])
 (.seq (.seq (.reg [
     ⟨none, some 13, .mv (.t 5)⟩,
     ⟨none, some 14, .bin .lss (.t 13) (.k (.c (.i 0)))⟩])
  (.cond (.t 14)
   (.seq (.reg [
       ⟨none, some 4, .mv (.k (.c (.b true)))⟩])
    (.ret))
   (.skip)))
 (.seq (.reg [
    ⟨none, some 15, .ldn 2 (.t 3)⟩,
    ⟨none, some 16, .mv (.t 5)⟩,
    ⟨none, some 17, .call n_laws_szTrain [.t 15, .t 16]⟩,
    ⟨none, some 5, .mv (.t 17)⟩])
 (.seq (.seq (.reg [
     ⟨none, some 18, .mv (.t 5)⟩,
     ⟨none, some 19, .bin .lss (.t 18) (.k (.c (.i 0)))⟩])
  (.cond (.t 19)
   (.seq (.reg [
       ⟨none, some 4, .mv (.k (.c (.b true)))⟩])
    (.ret))
   (.skip)))
 (.seq (.regq [
    ⟨none, some 20, .ldn 4 (.t 2)⟩,
    ⟨none, some 21, .call n_laws_toTariff [.t 20]⟩,
    ⟨none, some 22, .ldn 2 (.t 3)⟩,
    ⟨none, some 23, .call n_laws_toTrain [.t 22]⟩,
    ⟨none, some 24, .call n_spec_TollOf [.t 21, .t 23]⟩,
    ⟨none, some 6, .mv (.t 24)⟩])
 (.seq (.reg [
    ⟨none, some 25, .ldn 4 (.t 2)⟩,
    ⟨none, some 26, .call n_laws_toTariff [.t 25]⟩,
    ⟨none, some 7, .alloc [.c (.i 0), .c (.i 0), .nil, .nil]⟩,
    ⟨none, none, .stn 4 (.t 7) (.t 26)⟩])
 (.seq (.reg [
    ⟨none, some 27, .ldn 2 (.t 3)⟩,
    ⟨none, some 28, .call n_laws_toTrain [.t 27]⟩,
    ⟨none, some 8, .alloc [.c (.b false), .nil]⟩,
    ⟨none, none, .stn 2 (.t 8) (.t 28)⟩])
 (.seq (.reg [
    ⟨none, some 29, .ldn 4 (.t 7)⟩,
    ⟨none, some 30, .ldn 2 (.t 8)⟩,
    ⟨none, some 31, .call n_impl_TollOf [.t 29, .t 30]⟩,
    ⟨none, some 9, .mv (.t 31)⟩])
 (.seq (.seq (.reg [
     ⟨none, some 32, .mv (.t 9)⟩,
     ⟨none, some 33, .mv (.t 6)⟩,
     ⟨none, some 34, .bin .neq (.t 32) (.t 33)⟩])
  (.cond (.t 34)
   (.seq (.reg [
       ⟨none, some 4, .mv (.k (.c (.b false)))⟩])
    (.ret))
   (.skip)))
 (.seq (.seq (.regq [
     ⟨none, some 35, .ldn 4 (.t 7)⟩,
     ⟨none, some 36, .ldn 4 (.t 2)⟩,
     ⟨none, some 37, .call n_laws_toTariff [.t 36]⟩,
     ⟨none, some 38, .call n_laws_eqTariff [.t 35, .t 37]⟩,
     ⟨none, some 39, .not (.t 38)⟩])
  (.cond (.t 39)
   (.seq (.reg [
       ⟨none, some 4, .mv (.k (.c (.b false)))⟩])
    (.ret))
   (.skip)))
 (.seq (.seq (.regq [
     ⟨none, some 40, .ldn 2 (.t 8)⟩,
     ⟨none, some 41, .ldn 2 (.t 3)⟩,
     ⟨none, some 42, .call n_laws_toTrain [.t 41]⟩,
     ⟨none, some 43, .call n_laws_eqTrain [.t 40, .t 42]⟩,
     ⟨none, some 44, .not (.t 43)⟩])
  (.cond (.t 44)
   (.seq (.reg [
       ⟨none, some 4, .mv (.k (.c (.b false)))⟩])
    (.ret))
   (.skip)))
 (.seq (.reg [
    ⟨none, some 4, .mv (.k (.c (.b true)))⟩])
 (.ret))))))))))))))
theorem h_laws_FnExactTollOf : Has Try.prog n_laws_FnExactTollOf 45 c_laws_FnExactTollOf [.t 4] := ⟨⟨Try.f16, _, Try.func16, rfl, rfl, by kernel_rfl, by kernel_rfl⟩⟩



def c_laws_FnTolls : SC :=
 .seq (.reg [
    ⟨none, some 2, .mv (.k (.c (.b false)))⟩])
 (.seq (.seq (.reg [
     ⟨none, some 13, .mv (.t 0)⟩,
     ⟨none, some 14, .call n_laws_big [.t 13]⟩])
  (.cond (.t 14)
   (.seq (.reg [
       ⟨none, some 2, .mv (.k (.c (.b true)))⟩])
    (.ret))
   (.skip)))
 (.seq (.reg [
    ⟨none, some 15, .mv (.t 0)⟩,
    ⟨none, some 16, .call n_spec_DrawTariff [.t 15]⟩,
    ⟨none, some 3, .alloc [.c (.i 0), .c (.i 0), .nil, .nil]⟩,
    ⟨none, none, .stn 4 (.t 3) (.t 16)⟩])
 (.seq (.reg [
    ⟨none, some 17, .mv (.t 0)⟩,
    ⟨none, some 18, .call n_spec_DrawTrain [.t 17]⟩,
    ⟨none, some 4, .alloc [.c (.b false), .nil]⟩,
    ⟨none, none, .stn 2 (.t 4) (.t 18)⟩])
 (.seq (.regq [
    ⟨none, some 19, .ldn 4 (.t 3)⟩,
    ⟨none, some 20, .ldn 2 (.t 4)⟩,
    ⟨none, some 21, .mv (.t 0)⟩,
    ⟨none, some 22, .call n_laws_at [.t 21, .k (.c (.i 0))]⟩,
    ⟨none, some 23, .call n_impl_TollEntries [.t 19, .t 20, .t 22]⟩,
    ⟨none, some 5, .mv (.t 23)⟩])
 (.seq (.reg [
    ⟨none, some 6, .mv (.k (.c (.i 0)))⟩])
 (.seq (.seq (.reg [
     ⟨none, some 7, .mv (.k (.c (.i 0)))⟩])
  (.block 0 (.loop (.seq (.seq (.reg [
        ⟨none, some 24, .mv (.t 7)⟩,
        ⟨none, some 25, .mv (.t 5)⟩,
        ⟨none, some 26, .len (.t 25)⟩,
        ⟨none, some 27, .bin .lss (.t 24) (.t 26)⟩])
     (.cond (.t 27)
      (.skip)
      (.exit 0)))
    (.seq (.block 1 (.seq (.reg [
         ⟨none, some 30, .mv (.t 6)⟩,
         ⟨none, some 31, .mv (.t 5)⟩,
         ⟨none, some 32, .mv (.t 7)⟩,
         ⟨none, some 33, .idx 5 (.t 31) (.t 32)⟩,
         ⟨none, some 34, .fld 2 (.t 33)⟩,
         ⟨none, some 35, .ld1 (.t 34)⟩,
         ⟨none, some 36, .bin .add (.t 30) (.t 35)⟩,
         ⟨none, some 6, .mv (.t 36)⟩])
      (.seq (.regq [
         ⟨none, some 37, .mv (.t 5)⟩,
         ⟨none, some 38, .mv (.t 7)⟩,
         ⟨none, some 39, .idx 5 (.t 37) (.t 38)⟩,
         ⟨none, some 40, .fld 0 (.t 39)⟩,
         ⟨none, some 41, .ld1 (.t 40)⟩,
         ⟨none, some 42, .bin .neq (.t 41) (.k (.c (.i 0)))⟩,
         ⟨none, some 43, .mv (.t 42)⟩,
         ⟨some (43, false), some 44, .mv (.t 5)⟩,
         ⟨some (43, false), some 45, .mv (.t 7)⟩,
         ⟨some (43, false), some 46, .idx 5 (.t 44) (.t 45)⟩,
         ⟨some (43, false), some 47, .fld 1 (.t 46)⟩,
         ⟨some (43, false), some 48, .ld1 (.t 47)⟩,
         ⟨some (43, false), some 49, .bin .lss (.t 48) (.k (.c (.i 1)))⟩,
         ⟨none, some 50, .pick (.t 43) (.k (.c (.b true))) (.t 49)⟩,
         ⟨none, some 51, .mv (.t 50)⟩,
         ⟨some (51, false), some 52, .mv (.t 5)⟩,
         ⟨some (51, false), some 53, .mv (.t 7)⟩,
         ⟨some (51, false), some 54, .idx 5 (.t 52) (.t 53)⟩,
         ⟨some (51, false), some 55, .fld 1 (.t 54)⟩,
         ⟨some (51, false), some 56, .ld1 (.t 55)⟩,
         ⟨some (51, false), some 57, .fld 3 (.t 3)⟩,
         ⟨some (51, false), some 58, .ld1 (.t 57)⟩,
         ⟨some (51, false), some 59, .len (.t 58)⟩,
         ⟨some (51, false), some 60, .bin .gtr (.t 56) (.t 59)⟩,
         ⟨none, some 61, .pick (.t 51) (.k (.c (.b true))) (.t 60)⟩,
         ⟨none, some 62, .mv (.t 61)⟩,
         ⟨some (62, false), some 63, .mv (.t 5)⟩,
         ⟨some (62, false), some 64, .mv (.t 7)⟩,
         ⟨some (62, false), some 65, .idx 5 (.t 63) (.t 64)⟩,
         ⟨some (62, false), some 66, .fld 4 (.t 65)⟩,
         ⟨some (62, false), some 67, .ld1 (.t 66)⟩,
         ⟨some (62, false), some 68, .ldn 2 (.t 4)⟩,
         ⟨some (62, false), some 69, .call n_spec_IdsOf [.t 68]⟩,
         ⟨some (62, false), some 70, .idx 1 (.t 69) (.k (.c (.i 0)))⟩,
         ⟨some (62, false), some 71, .ld1 (.t 70)⟩,
         ⟨some (62, false), some 72, .bin .neq (.t 67) (.t 71)⟩,
         ⟨none, some 73, .pick (.t 62) (.k (.c (.b true))) (.t 72)⟩,
         ⟨none, some 74, .mv (.t 73)⟩,
         ⟨some (74, false), some 75, .mv (.t 7)⟩,
         ⟨some (74, false), some 76, .bin .gtr (.t 75) (.k (.c (.i 0)))⟩,
         ⟨some (74, false), some 77, .mv (.t 76)⟩,
         ⟨some (77, true), some 78, .mv (.t 5)⟩,
         ⟨some (77, true), some 79, .mv (.t 7)⟩,
         ⟨some (77, true), some 80, .idx 5 (.t 78) (.t 79)⟩,
         ⟨some (77, true), some 81, .fld 1 (.t 80)⟩,
         ⟨some (77, true), some 82, .ld1 (.t 81)⟩,
         ⟨some (77, true), some 83, .mv (.t 5)⟩,
         ⟨some (77, true), some 84, .mv (.t 7)⟩,
         ⟨some (77, true), some 85, .bin .sub (.t 84) (.k (.c (.i 1)))⟩,
         ⟨some (77, true), some 86, .idx 5 (.t 83) (.t 85)⟩,
         ⟨some (77, true), some 87, .fld 1 (.t 86)⟩,
         ⟨some (77, true), some 88, .ld1 (.t 87)⟩,
         ⟨some (77, true), some 89, .bin .leq (.t 82) (.t 88)⟩,
         ⟨some (74, false), some 90, .pick (.t 77) (.t 89) (.k (.c (.b false)))⟩,
         ⟨none, some 91, .pick (.t 74) (.k (.c (.b true))) (.t 90)⟩,
         ⟨none, some 92, .mv (.t 91)⟩,
         ⟨some (92, false), some 93, .mv (.t 5)⟩,
         ⟨some (92, false), some 94, .mv (.t 7)⟩,
         ⟨some (92, false), some 95, .idx 5 (.t 93) (.t 94)⟩,
         ⟨some (92, false), some 96, .ldn 5 (.t 95)⟩,
         ⟨some (92, false), some 97, .call n_impl_EntryOk [.t 96]⟩,
         ⟨some (92, false), some 98, .not (.t 97)⟩,
         ⟨none, some 99, .pick (.t 92) (.k (.c (.b true))) (.t 98)⟩])
      (.cond (.t 99)
       (.seq (.reg [
           ⟨none, some 2, .mv (.k (.c (.b false)))⟩])
        (.ret))
       (.skip)))))
    (.reg [
      ⟨none, some 28, .mv (.t 7)⟩,
      ⟨none, some 29, .bin .add (.t 28) (.k (.c (.i 1)))⟩,
      ⟨none, some 7, .mv (.t 29)⟩]))))))
 (.seq (.reg [
    ⟨none, some 101, .mv (.t 0)⟩,
    ⟨none, some 102, .call n_spec_DrawBook [.t 101]⟩,
    ⟨none, some 103, .mv (.t 5)⟩,
    ⟨none, some 104, .call n_impl_PostEntries [.t 102, .t 103]⟩,
    ⟨none, some 100, .mv (.t 104)⟩,
    ⟨none, some 105, .ext 0 (.t 100)⟩,
    ⟨none, some 106, .ext 1 (.t 100)⟩,
    ⟨none, some 8, .mv (.t 105)⟩,
    ⟨none, some 9, .mv (.t 106)⟩])
 (.seq (.reg [
    ⟨none, some 107, .mv (.t 8)⟩,
    ⟨none, some 108, .call n_impl_BalancesOf [.t 107]⟩,
    ⟨none, some 10, .mv (.t 108)⟩])
 (.seq (.reg [
    ⟨none, some 11, .mv (.k (.c (.i 0)))⟩])
 (.seq (.seq (.reg [
     ⟨none, some 12, .mv (.k (.c (.i 0)))⟩])
  (.block 2 (.loop (.seq (.seq (.reg [
        ⟨none, some 109, .mv (.t 12)⟩,
        ⟨none, some 110, .mv (.t 10)⟩,
        ⟨none, some 111, .len (.t 110)⟩,
        ⟨none, some 112, .bin .lss (.t 109) (.t 111)⟩])
     (.cond (.t 112)
      (.skip)
      (.exit 2)))
    (.seq (.block 3 (.reg [
        ⟨none, some 115, .mv (.t 11)⟩,
        ⟨none, some 116, .mv (.t 10)⟩,
        ⟨none, some 117, .mv (.t 12)⟩,
        ⟨none, some 118, .idx 1 (.t 116) (.t 117)⟩,
        ⟨none, some 119, .ld1 (.t 118)⟩,
        ⟨none, some 120, .bin .add (.t 115) (.t 119)⟩,
        ⟨none, some 11, .mv (.t 120)⟩]))
    (.reg [
      ⟨none, some 113, .mv (.t 12)⟩,
      ⟨none, some 114, .bin .add (.t 113) (.k (.c (.i 1)))⟩,
      ⟨none, some 12, .mv (.t 114)⟩]))))))
 (.seq (.reg [
    ⟨none, some 121, .mv (.t 9)⟩,
    ⟨none, some 122, .mv (.t 121)⟩,
    ⟨some (122, true), some 123, .mv (.t 6)⟩,
    ⟨some (122, true), some 124, .ldn 4 (.t 3)⟩,
    ⟨some (122, true), some 125, .ldn 2 (.t 4)⟩,
    ⟨some (122, true), some 126, .call n_impl_TollOf [.t 124, .t 125]⟩,
    ⟨some (122, true), some 127, .bin .eql (.t 123) (.t 126)⟩,
    ⟨none, some 128, .pick (.t 122) (.t 127) (.k (.c (.b false)))⟩,
    ⟨none, some 129, .mv (.t 128)⟩,
    ⟨some (129, true), some 130, .mv (.t 11)⟩,
    ⟨some (129, true), some 131, .bin .eql (.t 130) (.k (.c (.i 0)))⟩,
    ⟨none, some 132, .pick (.t 129) (.t 131) (.k (.c (.b false)))⟩,
    ⟨none, some 133, .mv (.t 132)⟩,
    ⟨some (133, true), some 134, .mv (.t 10)⟩,
    ⟨some (133, true), some 135, .len (.t 134)⟩,
    ⟨some (133, true), some 136, .bin .eql (.t 135) (.k (.c (.i 12)))⟩,
    ⟨none, some 137, .pick (.t 133) (.t 136) (.k (.c (.b false)))⟩,
    ⟨none, some 138, .mv (.t 137)⟩,
    ⟨some (138, true), some 139, .ldn 4 (.t 3)⟩,
    ⟨some (138, true), some 140, .call n_impl_TariffOk [.t 139]⟩,
    ⟨none, some 141, .pick (.t 138) (.t 140) (.k (.c (.b false)))⟩,
    ⟨none, some 142, .mv (.t 141)⟩,
    ⟨some (142, true), some 143, .mv (.t 8)⟩,
    ⟨some (142, true), some 144, .call n_impl_BookOk [.t 143]⟩,
    ⟨none, some 145, .pick (.t 142) (.t 144) (.k (.c (.b false)))⟩,
    ⟨none, some 2, .mv (.t 145)⟩])
 (.ret))))))))))))
theorem h_laws_FnTolls : Has Try.prog n_laws_FnTolls 146 c_laws_FnTolls [.t 2] := ⟨⟨Try.f18, _, Try.func18, rfl, rfl, by kernel_rfl, by kernel_rfl⟩⟩



def c_laws_FnExactTimeTo : SC :=
 .seq (.reg [
    ⟨none, some 3, .box 3 (.t 0)⟩,
    ⟨none, some 4, .box 2 (.t 1)⟩,
    ⟨none, some 5, .box 3 (.t 2)⟩,
    ⟨none, some 6, .mv (.k (.c (.b false)))⟩])
 (.seq (.reg [
    ⟨none, some 7, .mv (.k (.c (.i 1048576)))⟩])
 (.seq (.reg [
    ⟨none, some 12, .ldn 3 (.t 3)⟩,
    ⟨none, some 13, .mv (.t 7)⟩,
    ⟨none, some 14, .call n_laws_szMover [.t 12, .t 13]⟩,
    ⟨none, some 7, .mv (.t 14)⟩])
 (.seq (.seq (.reg [
     ⟨none, some 15, .mv (.t 7)⟩,
     ⟨none, some 16, .bin .lss (.t 15) (.k (.c (.i 0)))⟩])
  (.cond (.t 16)
   (.seq (.reg [
       ⟨none, some 6, .mv (.k (.c (.b true)))⟩])
    (.ret))
   (.skip)))
 (.seq (.reg [
    ⟨none, some 17, .ldn 3 (.t 5)⟩,
    ⟨none, some 18, .mv (.t 7)⟩,
    ⟨none, some 19, .call n_laws_szReach [.t 17, .t 18]⟩,
    ⟨none, some 7, .mv (.t 19)⟩])
 (.seq (.seq (.reg [
     ⟨none, some 20, .mv (.t 7)⟩,
     ⟨none, some 21, .bin .lss (.t 20) (.k (.c (.i 0)))⟩])
  (.cond (.t 21)
   (.seq (.reg [
       ⟨none, some 6, .mv (.k (.c (.b true)))⟩])
    (.ret))
   (.skip)))
 (.seq (.regq [
    ⟨none, some 22, .ldn 3 (.t 3)⟩,
    ⟨none, some 23, .call n_laws_toMover [.t 22]⟩,
    ⟨none, some 24, .ldn 2 (.t 4)⟩,
    ⟨none, some 25, .call n_laws_toWay [.t 24]⟩,
    ⟨none, some 26, .ldn 3 (.t 5)⟩,
    ⟨none, some 27, .call n_laws_toReach [.t 26]⟩,
    ⟨none, some 28, .call n_spec_TimeTo [.t 23, .t 25, .t 27]⟩,
    ⟨none, some 8, .mv (.t 28)⟩])
 (.seq (.reg [
    ⟨none, some 29, .ldn 3 (.t 3)⟩,
    ⟨none, some 30, .call n_laws_toMover [.t 29]⟩,
    ⟨none, some 9, .alloc [.c (.b false), .nil, .c (.i 0)]⟩,
    ⟨none, none, .stn 3 (.t 9) (.t 30)⟩])
 (.seq (.reg [
    ⟨none, some 31, .ldn 3 (.t 5)⟩,
    ⟨none, some 32, .call n_laws_toReach [.t 31]⟩,
    ⟨none, some 10, .alloc [.nil, .c (.i 0), .nil]⟩,
    ⟨none, none, .stn 3 (.t 10) (.t 32)⟩])
 (.seq (.regq [
    ⟨none, some 33, .ldn 3 (.t 9)⟩,
    ⟨none, some 34, .ldn 2 (.t 4)⟩,
    ⟨none, some 35, .call n_laws_toWay [.t 34]⟩,
    ⟨none, some 36, .ldn 3 (.t 10)⟩,
    ⟨none, some 37, .call n_impl_TimeTo [.t 33, .t 35, .t 36]⟩,
    ⟨none, some 11, .mv (.t 37)⟩])
 (.seq (.seq (.reg [
     ⟨none, some 38, .mv (.t 11)⟩,
     ⟨none, some 39, .mv (.t 8)⟩,
     ⟨none, some 40, .bin .neq (.t 38) (.t 39)⟩])
  (.cond (.t 40)
   (.seq (.reg [
       ⟨none, some 6, .mv (.k (.c (.b false)))⟩])
    (.ret))
   (.skip)))
 (.seq (.seq (.regq [
     ⟨none, some 41, .ldn 3 (.t 9)⟩,
     ⟨none, some 42, .ldn 3 (.t 3)⟩,
     ⟨none, some 43, .call n_laws_toMover [.t 42]⟩,
     ⟨none, some 44, .call n_laws_eqMover [.t 41, .t 43]⟩,
     ⟨none, some 45, .not (.t 44)⟩])
  (.cond (.t 45)
   (.seq (.reg [
       ⟨none, some 6, .mv (.k (.c (.b false)))⟩])
    (.ret))
   (.skip)))
 (.seq (.seq (.regq [
     ⟨none, some 46, .ldn 3 (.t 10)⟩,
     ⟨none, some 47, .ldn 3 (.t 5)⟩,
     ⟨none, some 48, .call n_laws_toReach [.t 47]⟩,
     ⟨none, some 49, .call n_laws_eqReach [.t 46, .t 48]⟩,
     ⟨none, some 50, .not (.t 49)⟩])
  (.cond (.t 50)
   (.seq (.reg [
       ⟨none, some 6, .mv (.k (.c (.b false)))⟩])
    (.ret))
   (.skip)))
 (.seq (.reg [
    ⟨none, some 6, .mv (.k (.c (.b true)))⟩])
 (.ret))))))))))))))
theorem h_laws_FnExactTimeTo : Has Try.prog n_laws_FnExactTimeTo 51 c_laws_FnExactTimeTo [.t 6] := ⟨⟨Try.f20, _, Try.func20, rfl, rfl, by kernel_rfl, by kernel_rfl⟩⟩

def c_laws_FnExactOrderCalls : SC :=
 .seq (.reg [
    ⟨none, some 4, .mv (.k (.c (.b false)))⟩])
 (.seq (.reg [
    ⟨none, some 5, .mv (.k (.c (.i 1048576)))⟩])
 (.seq (.reg [
    ⟨none, some 13, .mv (.t 0)⟩,
    ⟨none, some 14, .mv (.t 5)⟩,
    ⟨none, some 15, .call n_laws_szCallS [.t 13, .t 14]⟩,
    ⟨none, some 5, .mv (.t 15)⟩])
 (.seq (.seq (.reg [
     ⟨none, some 16, .mv (.t 5)⟩,
     ⟨none, some 17, .bin .lss (.t 16) (.k (.c (.i 0)))⟩])
  (.cond (.t 17)
   (.seq (.reg [
       ⟨none, some 4, .mv (.k (.c (.b true)))⟩])
    (.ret))
   (.skip)))
 (.seq (.reg [
    ⟨none, some 18, .mv (.t 0)⟩,
    ⟨none, some 19, .call n_laws_toCallS [.t 18]⟩,
    ⟨none, some 20, .mv (.t 1)⟩,
    ⟨none, some 21, .call n_spec_OrderCalls [.t 19, .t 20]⟩,
    ⟨none, some 6, .mv (.t 21)⟩])
 (.seq (.reg [
    ⟨none, some 22, .mv (.t 0)⟩,
    ⟨none, some 23, .call n_laws_toCallS [.t 22]⟩,
    ⟨none, some 7, .mv (.t 23)⟩])
 (.seq (.reg [
    ⟨none, some 24, .mv (.t 7)⟩,
    ⟨none, some 25, .mv (.t 1)⟩,
    ⟨none, some 26, .call n_impl_OrderCalls [.t 24, .t 25]⟩,
    ⟨none, some 8, .mv (.t 26)⟩])
 (.seq (.seq (.reg [
     ⟨none, some 27, .mv (.t 8)⟩,
     ⟨none, some 28, .mv (.t 6)⟩,
     ⟨none, some 29, .call n_laws_eqIntS [.t 27, .t 28]⟩,
     ⟨none, some 30, .not (.t 29)⟩])
  (.cond (.t 30)
   (.seq (.reg [
       ⟨none, some 4, .mv (.k (.c (.b false)))⟩])
    (.ret))
   (.skip)))
 (.seq (.seq (.reg [
     ⟨none, some 31, .mv (.t 7)⟩,
     ⟨none, some 32, .mv (.t 0)⟩,
     ⟨none, some 33, .call n_laws_toCallS [.t 32]⟩,
     ⟨none, some 34, .call n_laws_eqCallS [.t 31, .t 33]⟩,
     ⟨none, some 35, .not (.t 34)⟩])
  (.cond (.t 35)
   (.seq (.reg [
       ⟨none, some 4, .mv (.k (.c (.b false)))⟩])
    (.ret))
   (.skip)))
 (.seq (.reg [
    ⟨none, some 9, .mv (.k (.c (.i 1)))⟩])
 (.seq (.reg [
    ⟨none, some 36, .mv (.t 7)⟩,
    ⟨none, some 37, .mv (.t 9)⟩,
    ⟨none, some 38, .call n_laws_markCallS [.t 36, .t 37]⟩,
    ⟨none, some 9, .mv (.t 38)⟩])
 (.seq (.seq (.reg [
     ⟨none, some 39, .mv (.t 9)⟩,
     ⟨none, some 40, .bin .lss (.t 39) (.k (.c (.i 0)))⟩,
     ⟨none, some 41, .mv (.t 40)⟩,
     ⟨some (41, false), some 42, .mv (.t 8)⟩,
     ⟨some (41, false), some 43, .mv (.t 6)⟩,
     ⟨some (41, false), some 44, .call n_laws_eqIntS [.t 42, .t 43]⟩,
     ⟨some (41, false), some 45, .not (.t 44)⟩,
     ⟨none, some 46, .pick (.t 41) (.k (.c (.b true))) (.t 45)⟩])
  (.cond (.t 46)
   (.seq (.reg [
       ⟨none, some 4, .mv (.k (.c (.b false)))⟩])
    (.ret))
   (.skip)))
 (.seq (.reg [
    ⟨none, some 10, .mv (.k (.c (.i 1)))⟩])
 (.seq (.reg [
    ⟨none, some 47, .mv (.t 8)⟩,
    ⟨none, some 48, .mv (.t 10)⟩,
    ⟨none, some 49, .call n_laws_markIntS [.t 47, .t 48]⟩,
    ⟨none, some 10, .mv (.t 49)⟩])
 (.seq (.reg [
    ⟨none, some 11, .mv (.k (.c (.i 1)))⟩])
 (.seq (.reg [
    ⟨none, some 50, .mv (.t 8)⟩,
    ⟨none, some 51, .mv (.t 11)⟩,
    ⟨none, some 52, .call n_laws_heldIntS [.t 50, .t 51]⟩,
    ⟨none, some 11, .mv (.t 52)⟩])
 (.seq (.seq (.reg [
     ⟨none, some 53, .mv (.t 11)⟩,
     ⟨none, some 54, .bin .lss (.t 53) (.k (.c (.i 0)))⟩])
  (.cond (.t 54)
   (.seq (.reg [
       ⟨none, some 4, .mv (.k (.c (.b false)))⟩])
    (.ret))
   (.skip)))
 (.seq (.seq (.reg [
     ⟨none, some 55, .mv (.t 11)⟩,
     ⟨none, some 56, .mv (.t 10)⟩,
     ⟨none, some 57, .bin .neq (.t 55) (.t 56)⟩])
  (.cond (.t 57)
   (.seq (.reg [
       ⟨none, some 4, .mv (.k (.c (.b false)))⟩])
    (.ret))
   (.skip)))
 (.seq (.reg [
    ⟨none, some 58, .mv (.t 0)⟩,
    ⟨none, some 59, .call n_laws_toCallS [.t 58]⟩,
    ⟨none, some 60, .mv (.t 1)⟩,
    ⟨none, some 61, .call n_impl_OrderCalls [.t 59, .t 60]⟩,
    ⟨none, some 12, .mv (.t 61)⟩])
 (.seq (.seq (.reg [
     ⟨none, some 62, .mv (.t 12)⟩,
     ⟨none, some 63, .mv (.t 6)⟩,
     ⟨none, some 64, .call n_laws_eqIntS [.t 62, .t 63]⟩,
     ⟨none, some 65, .not (.t 64)⟩])
  (.cond (.t 65)
   (.seq (.reg [
       ⟨none, some 4, .mv (.k (.c (.b false)))⟩])
    (.ret))
   (.skip)))
 (.seq (.reg [
    ⟨none, some 11, .mv (.k (.c (.i 1)))⟩])
 (.seq (.reg [
    ⟨none, some 66, .mv (.t 8)⟩,
    ⟨none, some 67, .mv (.t 11)⟩,
    ⟨none, some 68, .call n_laws_heldIntS [.t 66, .t 67]⟩,
    ⟨none, some 11, .mv (.t 68)⟩])
 (.seq (.seq (.reg [
     ⟨none, some 69, .mv (.t 11)⟩,
     ⟨none, some 70, .bin .lss (.t 69) (.k (.c (.i 0)))⟩])
  (.cond (.t 70)
   (.seq (.reg [
       ⟨none, some 4, .mv (.k (.c (.b false)))⟩])
    (.ret))
   (.skip)))
 (.seq (.seq (.reg [
     ⟨none, some 71, .mv (.t 11)⟩,
     ⟨none, some 72, .mv (.t 10)⟩,
     ⟨none, some 73, .bin .neq (.t 71) (.t 72)⟩])
  (.cond (.t 73)
   (.seq (.reg [
       ⟨none, some 4, .mv (.k (.c (.b false)))⟩])
    (.ret))
   (.skip)))
 (.seq (.reg [
    ⟨none, some 4, .mv (.k (.c (.b true)))⟩])
 (.ret)))))))))))))))))))))))))
theorem h_laws_FnExactOrderCalls : Has Try.prog n_laws_FnExactOrderCalls 74 c_laws_FnExactOrderCalls [.t 4] := ⟨⟨Try.f21, _, Try.func21, rfl, rfl, by kernel_rfl, by kernel_rfl⟩⟩

def c_laws_FnExactWorkOk : SC :=
 .seq (.reg [
    ⟨none, some 1, .box 22 (.t 0)⟩,
    ⟨none, some 2, .mv (.k (.c (.b false)))⟩])
 (.seq (.reg [
    ⟨none, some 3, .mv (.k (.c (.i 1048576)))⟩])
 (.seq (.reg [
    ⟨none, some 7, .ldn 22 (.t 1)⟩,
    ⟨none, some 8, .mv (.t 3)⟩,
    ⟨none, some 9, .call n_laws_szWork [.t 7, .t 8]⟩,
    ⟨none, some 3, .mv (.t 9)⟩])
 (.seq (.seq (.reg [
     ⟨none, some 10, .mv (.t 3)⟩,
     ⟨none, some 11, .bin .lss (.t 10) (.k (.c (.i 0)))⟩])
  (.cond (.t 11)
   (.seq (.reg [
       ⟨none, some 2, .mv (.k (.c (.b true)))⟩])
    (.ret))
   (.skip)))
 (.seq (.reg [
    ⟨none, some 12, .ldn 22 (.t 1)⟩,
    ⟨none, some 13, .call n_laws_toWork [.t 12]⟩,
    ⟨none, some 14, .call n_spec_WorkOk [.t 13]⟩,
    ⟨none, some 4, .mv (.t 14)⟩])
 (.seq (.reg [
    ⟨none, some 15, .ldn 22 (.t 1)⟩,
    ⟨none, some 16, .call n_laws_toWork [.t 15]⟩,
    ⟨none, some 5, .alloc [.c (.i 0), .c (.i 0), .c (.i 0), .c (.i 0), .c (.i 0), .c (.i 0), .c (.i 0), .c (.i 0), .c (.i 0), .nil, .c (.i 0), .c (.i 0), .c (.i 0), .c (.i 0), .c (.i 0), .c (.i 0), .c (.i 0), .c (.i 0), .nil, .c (.b false), .c (.i 0), .nil]⟩,
    ⟨none, none, .stn 22 (.t 5) (.t 16)⟩])
 (.seq (.reg [
    ⟨none, some 17, .ldn 22 (.t 5)⟩,
    ⟨none, some 18, .call n_impl_WorkOk [.t 17]⟩,
    ⟨none, some 6, .mv (.t 18)⟩])
 (.seq (.seq (.reg [
     ⟨none, some 19, .mv (.t 6)⟩,
     ⟨none, some 20, .mv (.t 4)⟩,
     ⟨none, some 21, .beq true (.t 19) (.t 20)⟩])
  (.cond (.t 21)
   (.seq (.reg [
       ⟨none, some 2, .mv (.k (.c (.b false)))⟩])
    (.ret))
   (.skip)))
 (.seq (.seq (.regq [
     ⟨none, some 22, .ldn 22 (.t 5)⟩,
     ⟨none, some 23, .ldn 22 (.t 1)⟩,
     ⟨none, some 24, .call n_laws_toWork [.t 23]⟩,
     ⟨none, some 25, .call n_laws_eqWork [.t 22, .t 24]⟩,
     ⟨none, some 26, .not (.t 25)⟩])
  (.cond (.t 26)
   (.seq (.reg [
       ⟨none, some 2, .mv (.k (.c (.b false)))⟩])
    (.ret))
   (.skip)))
 (.seq (.reg [
    ⟨none, some 2, .mv (.k (.c (.b true)))⟩])
 (.ret))))))))))
theorem h_laws_FnExactWorkOk : Has Try.prog n_laws_FnExactWorkOk 27 c_laws_FnExactWorkOk [.t 2] := ⟨⟨Try.f22, _, Try.func22, rfl, rfl, by kernel_rfl, by kernel_rfl⟩⟩

end Go.Proofs.Ytenfgllkjgfjpaa
