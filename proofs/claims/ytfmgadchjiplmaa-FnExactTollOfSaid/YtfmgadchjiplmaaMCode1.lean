/- Functions of this seat in the small language, written by a program (GenCode) out of the translation; each is held against the translation by the kernel. -/
import Derived.Test.YtfmgadchjiplmaaMNames
import Derived.KernelRfl
set_option linter.all false
namespace Go.Proofs.Ytfmgadchjiplmaa
open Go.RowKit

def c_laws_FnExactWayOk : SC :=
 .seq (.reg [
    ⟨none, some 1, .box 2 (.t 0)⟩,
    ⟨none, some 2, .mv (.k (.c (.b false)))⟩])
 (.seq (.reg [
    ⟨none, some 5, .ldn 2 (.t 1)⟩,
    ⟨none, some 6, .call n_laws_toWay [.t 5]⟩,
    ⟨none, some 7, .call n_spec_WayOk [.t 6]⟩,
    ⟨none, some 3, .mv (.t 7)⟩])
 (.seq (.reg [
    ⟨none, some 8, .ldn 2 (.t 1)⟩,
    ⟨none, some 9, .call n_laws_toWay [.t 8]⟩,
    ⟨none, some 10, .call n_impl_WayOk [.t 9]⟩,
    ⟨none, some 4, .mv (.t 10)⟩])
 (.seq (.seq (.reg [
     ⟨none, some 11, .mv (.t 4)⟩,
     ⟨none, some 12, .mv (.t 3)⟩,
     ⟨none, some 13, .beq true (.t 11) (.t 12)⟩])
  (.cond (.t 13)
   (.seq (.reg [
       ⟨none, some 2, .mv (.k (.c (.b false)))⟩])
    (.ret))
   (.skip)))
 (.seq (.reg [
    ⟨none, some 2, .mv (.k (.c (.b true)))⟩])
 (.ret)))))
theorem h_laws_FnExactWayOk : Has Try.prog n_laws_FnExactWayOk 14 c_laws_FnExactWayOk [.t 2] := ⟨by decide, Try.f3, _, Try.func3, rfl, rfl, by kernel_rfl, by kernel_rfl⟩

def c_spec_WayOk : SC :=
 .seq (.reg [
    ⟨none, some 1, .box 2 (.t 0)⟩,
    ⟨none, some 2, .mv (.k (.c (.b false)))⟩])
 (.seq (.reg [
    ⟨none, some 3, .fld 0 (.t 1)⟩,
    ⟨none, some 4, .ld1 (.t 3)⟩,
    ⟨none, some 5, .call n_spec_l01In [.t 4, .k (.c (.i 1)), .k (.c (.i 10000))]⟩,
    ⟨none, some 6, .mv (.t 5)⟩,
    ⟨some (6, true), some 7, .fld 1 (.t 1)⟩,
    ⟨some (6, true), some 8, .ld1 (.t 7)⟩,
    ⟨some (6, true), some 9, .call n_spec_l03Level [.t 8]⟩,
    ⟨none, some 10, .pick (.t 6) (.t 9) (.k (.c (.b false)))⟩,
    ⟨none, some 2, .mv (.t 10)⟩])
 (.ret))
theorem h_spec_WayOk : Has Try.prog n_spec_WayOk 11 c_spec_WayOk [.t 2] := ⟨by decide, Try.f26, _, Try.func26, rfl, rfl, by kernel_rfl, by kernel_rfl⟩

def c_laws_toWay : SC :=
 .seq (.reg [
    ⟨none, some 1, .box 2 (.t 0)⟩,
    ⟨none, some 2, .alloc [.c (.i 0), .c (.i 0)]⟩])
 (.seq (.reg [
    ⟨none, some 3, .alloc [.c (.i 0), .c (.i 0)]⟩])
 (.seq (.reg [
    ⟨none, some 4, .fld 0 (.t 1)⟩,
    ⟨none, some 5, .ld1 (.t 4)⟩,
    ⟨none, some 6, .fld 0 (.t 3)⟩,
    ⟨none, none, .st1 (.t 6) (.t 5)⟩])
 (.seq (.reg [
    ⟨none, some 7, .fld 1 (.t 1)⟩,
    ⟨none, some 8, .ld1 (.t 7)⟩,
    ⟨none, some 9, .fld 1 (.t 3)⟩,
    ⟨none, none, .st1 (.t 9) (.t 8)⟩])
 (.seq (.reg [
    ⟨none, some 10, .ldn 2 (.t 3)⟩,
    ⟨none, none, .stn 2 (.t 2) (.t 10)⟩])
 (.ret)))))
theorem h_laws_toWay : Has Try.prog n_laws_toWay 11 c_laws_toWay [.cl 2 2] := ⟨by decide, Try.f27, _, Try.func27, rfl, rfl, by kernel_rfl, by kernel_rfl⟩

def c_impl_WayOk : SC :=
 .seq (.reg [
    ⟨none, some 1, .box 2 (.t 0)⟩,
    ⟨none, some 2, .mv (.k (.c (.b false)))⟩])
 (.seq (.reg [
    ⟨none, some 3, .fld 0 (.t 1)⟩,
    ⟨none, some 4, .ld1 (.t 3)⟩,
    ⟨none, some 5, .call n_impl_inRange [.t 4, .k (.c (.i 1)), .k (.c (.i 10000))]⟩,
    ⟨none, some 6, .mv (.t 5)⟩,
    ⟨some (6, true), some 7, .fld 1 (.t 1)⟩,
    ⟨some (6, true), some 8, .ld1 (.t 7)⟩,
    ⟨some (6, true), some 9, .call n_impl_inRange [.t 8, .k (.c (.i 0)), .k (.c (.i 100000))]⟩,
    ⟨none, some 10, .pick (.t 6) (.t 9) (.k (.c (.b false)))⟩,
    ⟨none, some 2, .mv (.t 10)⟩])
 (.ret))
theorem h_impl_WayOk : Has Try.prog n_impl_WayOk 11 c_impl_WayOk [.t 2] := ⟨by decide, Try.f28, _, Try.func28, rfl, rfl, by kernel_rfl, by kernel_rfl⟩

def c_spec_l01In : SC :=
 .seq (.reg [
    ⟨none, some 6, .mv (.k (.c (.b false)))⟩])
 (.seq (.reg [
    ⟨none, some 7, .mv (.t 0)⟩,
    ⟨none, some 8, .mv (.t 1)⟩,
    ⟨none, some 9, .bin .geq (.t 7) (.t 8)⟩,
    ⟨none, some 10, .mv (.t 9)⟩,
    ⟨some (10, true), some 11, .mv (.t 0)⟩,
    ⟨some (10, true), some 12, .mv (.t 2)⟩,
    ⟨some (10, true), some 13, .bin .leq (.t 11) (.t 12)⟩,
    ⟨none, some 14, .pick (.t 10) (.t 13) (.k (.c (.b false)))⟩,
    ⟨none, some 6, .mv (.t 14)⟩])
 (.ret))
theorem h_spec_l01In : Has Try.prog n_spec_l01In 15 c_spec_l01In [.t 6] := ⟨by decide, Try.f118, _, Try.func118, rfl, rfl, by kernel_rfl, by kernel_rfl⟩

def c_spec_l03Level : SC :=
 .seq (.reg [
    ⟨none, some 2, .mv (.k (.c (.b false)))⟩])
 (.seq (.reg [
    ⟨none, some 3, .mv (.t 0)⟩,
    ⟨none, some 4, .call n_spec_l01In [.t 3, .k (.c (.i 0)), .k (.c (.i 100000))]⟩,
    ⟨none, some 2, .mv (.t 4)⟩])
 (.ret))
theorem h_spec_l03Level : Has Try.prog n_spec_l03Level 5 c_spec_l03Level [.t 2] := ⟨by decide, Try.f119, _, Try.func119, rfl, rfl, by kernel_rfl, by kernel_rfl⟩

def c_impl_inRange : SC :=
 .seq (.reg [
    ⟨none, some 6, .mv (.k (.c (.b false)))⟩])
 (.seq (.reg [
    ⟨none, some 7, .mv (.t 0)⟩,
    ⟨none, some 8, .mv (.t 1)⟩,
    ⟨none, some 9, .bin .geq (.t 7) (.t 8)⟩,
    ⟨none, some 10, .mv (.t 9)⟩,
    ⟨some (10, true), some 11, .mv (.t 0)⟩,
    ⟨some (10, true), some 12, .mv (.t 2)⟩,
    ⟨some (10, true), some 13, .bin .leq (.t 11) (.t 12)⟩,
    ⟨none, some 14, .pick (.t 10) (.t 13) (.k (.c (.b false)))⟩,
    ⟨none, some 6, .mv (.t 14)⟩])
 (.ret))
theorem h_impl_inRange : Has Try.prog n_impl_inRange 15 c_impl_inRange [.t 6] := ⟨by decide, Try.f120, _, Try.func120, rfl, rfl, by kernel_rfl, by kernel_rfl⟩

def c_laws_FnExactEntryOk : SC :=
 .seq (.reg [
    ⟨none, some 1, .box 5 (.t 0)⟩,
    ⟨none, some 2, .mv (.k (.c (.b false)))⟩])
 (.seq (.reg [
    ⟨none, some 5, .ldn 5 (.t 1)⟩,
    ⟨none, some 6, .call n_laws_toEntry [.t 5]⟩,
    ⟨none, some 7, .call n_spec_EntryOk [.t 6]⟩,
    ⟨none, some 3, .mv (.t 7)⟩])
 (.seq (.reg [
    ⟨none, some 8, .ldn 5 (.t 1)⟩,
    ⟨none, some 9, .call n_laws_toEntry [.t 8]⟩,
    ⟨none, some 10, .call n_impl_EntryOk [.t 9]⟩,
    ⟨none, some 4, .mv (.t 10)⟩])
 (.seq (.seq (.reg [
     ⟨none, some 11, .mv (.t 4)⟩,
     ⟨none, some 12, .mv (.t 3)⟩,
     ⟨none, some 13, .beq true (.t 11) (.t 12)⟩])
  (.cond (.t 13)
   (.seq (.reg [
       ⟨none, some 2, .mv (.k (.c (.b false)))⟩])
    (.ret))
   (.skip)))
 (.seq (.reg [
    ⟨none, some 2, .mv (.k (.c (.b true)))⟩])
 (.ret)))))
theorem h_laws_FnExactEntryOk : Has Try.prog n_laws_FnExactEntryOk 14 c_laws_FnExactEntryOk [.t 2] := ⟨by decide, Try.f4, _, Try.func4, rfl, rfl, by kernel_rfl, by kernel_rfl⟩

def c_spec_EntryOk : SC :=
 .seq (.reg [
    ⟨none, some 1, .box 5 (.t 0)⟩,
    ⟨none, some 2, .mv (.k (.c (.b false)))⟩])
 (.seq (.reg [
    ⟨none, some 3, .fld 0 (.t 1)⟩,
    ⟨none, some 4, .ld1 (.t 3)⟩,
    ⟨none, some 5, .fld 1 (.t 1)⟩,
    ⟨none, some 6, .ld1 (.t 5)⟩,
    ⟨none, some 7, .bin .neq (.t 4) (.t 6)⟩,
    ⟨none, some 8, .mv (.t 7)⟩,
    ⟨some (8, true), some 9, .fld 0 (.t 1)⟩,
    ⟨some (8, true), some 10, .ld1 (.t 9)⟩,
    ⟨some (8, true), some 11, .call n_spec_l01In [.t 10, .k (.c (.i 0)), .k (.c (.i 11))]⟩,
    ⟨none, some 12, .pick (.t 8) (.t 11) (.k (.c (.b false)))⟩,
    ⟨none, some 13, .mv (.t 12)⟩,
    ⟨some (13, true), some 14, .fld 1 (.t 1)⟩,
    ⟨some (13, true), some 15, .ld1 (.t 14)⟩,
    ⟨some (13, true), some 16, .call n_spec_l01In [.t 15, .k (.c (.i 0)), .k (.c (.i 11))]⟩,
    ⟨none, some 17, .pick (.t 13) (.t 16) (.k (.c (.b false)))⟩,
    ⟨none, some 18, .mv (.t 17)⟩,
    ⟨some (18, true), some 19, .fld 2 (.t 1)⟩,
    ⟨some (18, true), some 20, .ld1 (.t 19)⟩,
    ⟨some (18, true), some 21, .call n_spec_l01In [.t 20, .k (.c (.i 1)), .k (.c (.i 1000000000))]⟩,
    ⟨none, some 22, .pick (.t 18) (.t 21) (.k (.c (.b false)))⟩,
    ⟨none, some 23, .mv (.t 22)⟩,
    ⟨some (23, true), some 24, .fld 3 (.t 1)⟩,
    ⟨some (23, true), some 25, .ld1 (.t 24)⟩,
    ⟨some (23, true), some 26, .call n_spec_l01In [.t 25, .k (.c (.i 0)), .k (.c (.i 1000000))]⟩,
    ⟨none, some 27, .pick (.t 23) (.t 26) (.k (.c (.b false)))⟩,
    ⟨none, some 28, .mv (.t 27)⟩,
    ⟨some (28, true), some 29, .fld 4 (.t 1)⟩,
    ⟨some (28, true), some 30, .ld1 (.t 29)⟩,
    ⟨some (28, true), some 31, .call n_spec_l01In [.t 30, .k (.c (.i 0)), .k (.c (.i 9999))]⟩,
    ⟨none, some 32, .pick (.t 28) (.t 31) (.k (.c (.b false)))⟩,
    ⟨none, some 2, .mv (.t 32)⟩])
 (.ret))
theorem h_spec_EntryOk : Has Try.prog n_spec_EntryOk 33 c_spec_EntryOk [.t 2] := ⟨by decide, Try.f29, _, Try.func29, rfl, rfl, by kernel_rfl, by kernel_rfl⟩

def c_laws_toEntry : SC :=
 .seq (.reg [
    ⟨none, some 1, .box 5 (.t 0)⟩,
    ⟨none, some 2, .alloc [.c (.i 0), .c (.i 0), .c (.i 0), .c (.i 0), .c (.i 0)]⟩])
 (.seq (.reg [
    ⟨none, some 3, .alloc [.c (.i 0), .c (.i 0), .c (.i 0), .c (.i 0), .c (.i 0)]⟩])
 (.seq (.reg [
    ⟨none, some 4, .fld 0 (.t 1)⟩,
    ⟨none, some 5, .ld1 (.t 4)⟩,
    ⟨none, some 6, .fld 0 (.t 3)⟩,
    ⟨none, none, .st1 (.t 6) (.t 5)⟩])
 (.seq (.reg [
    ⟨none, some 7, .fld 1 (.t 1)⟩,
    ⟨none, some 8, .ld1 (.t 7)⟩,
    ⟨none, some 9, .fld 1 (.t 3)⟩,
    ⟨none, none, .st1 (.t 9) (.t 8)⟩])
 (.seq (.reg [
    ⟨none, some 10, .fld 2 (.t 1)⟩,
    ⟨none, some 11, .ld1 (.t 10)⟩,
    ⟨none, some 12, .fld 2 (.t 3)⟩,
    ⟨none, none, .st1 (.t 12) (.t 11)⟩])
 (.seq (.reg [
    ⟨none, some 13, .fld 3 (.t 1)⟩,
    ⟨none, some 14, .ld1 (.t 13)⟩,
    ⟨none, some 15, .fld 3 (.t 3)⟩,
    ⟨none, none, .st1 (.t 15) (.t 14)⟩])
 (.seq (.reg [
    ⟨none, some 16, .fld 4 (.t 1)⟩,
    ⟨none, some 17, .ld1 (.t 16)⟩,
    ⟨none, some 18, .fld 4 (.t 3)⟩,
    ⟨none, none, .st1 (.t 18) (.t 17)⟩])
 (.seq (.reg [
    ⟨none, some 19, .ldn 5 (.t 3)⟩,
    ⟨none, none, .stn 5 (.t 2) (.t 19)⟩])
 (.ret))))))))
theorem h_laws_toEntry : Has Try.prog n_laws_toEntry 20 c_laws_toEntry [.cl 2 5] := ⟨by decide, Try.f30, _, Try.func30, rfl, rfl, by kernel_rfl, by kernel_rfl⟩

def c_impl_EntryOk : SC :=
 .seq (.reg [
    ⟨none, some 1, .box 5 (.t 0)⟩,
    ⟨none, some 2, .mv (.k (.c (.b false)))⟩])
 (.seq (.reg [
    ⟨none, some 3, .fld 0 (.t 1)⟩,
    ⟨none, some 4, .ld1 (.t 3)⟩,
    ⟨none, some 5, .fld 1 (.t 1)⟩,
    ⟨none, some 6, .ld1 (.t 5)⟩,
    ⟨none, some 7, .bin .neq (.t 4) (.t 6)⟩,
    ⟨none, some 8, .mv (.t 7)⟩,
    ⟨some (8, true), some 9, .fld 0 (.t 1)⟩,
    ⟨some (8, true), some 10, .ld1 (.t 9)⟩,
    ⟨some (8, true), some 11, .call n_impl_inRange [.t 10, .k (.c (.i 0)), .k (.c (.i 11))]⟩,
    ⟨none, some 12, .pick (.t 8) (.t 11) (.k (.c (.b false)))⟩,
    ⟨none, some 13, .mv (.t 12)⟩,
    ⟨some (13, true), some 14, .fld 1 (.t 1)⟩,
    ⟨some (13, true), some 15, .ld1 (.t 14)⟩,
    ⟨some (13, true), some 16, .call n_impl_inRange [.t 15, .k (.c (.i 0)), .k (.c (.i 11))]⟩,
    ⟨none, some 17, .pick (.t 13) (.t 16) (.k (.c (.b false)))⟩,
    ⟨none, some 18, .mv (.t 17)⟩,
    ⟨some (18, true), some 19, .fld 2 (.t 1)⟩,
    ⟨some (18, true), some 20, .ld1 (.t 19)⟩,
    ⟨some (18, true), some 21, .call n_impl_inRange [.t 20, .k (.c (.i 1)), .k (.c (.i 1000000000))]⟩,
    ⟨none, some 22, .pick (.t 18) (.t 21) (.k (.c (.b false)))⟩,
    ⟨none, some 23, .mv (.t 22)⟩,
    ⟨some (23, true), some 24, .fld 3 (.t 1)⟩,
    ⟨some (23, true), some 25, .ld1 (.t 24)⟩,
    ⟨some (23, true), some 26, .call n_impl_inRange [.t 25, .k (.c (.i 0)), .k (.c (.i 1000000))]⟩,
    ⟨none, some 27, .pick (.t 23) (.t 26) (.k (.c (.b false)))⟩,
    ⟨none, some 28, .mv (.t 27)⟩,
    ⟨some (28, true), some 29, .fld 4 (.t 1)⟩,
    ⟨some (28, true), some 30, .ld1 (.t 29)⟩,
    ⟨some (28, true), some 31, .call n_impl_inRange [.t 30, .k (.c (.i 0)), .k (.c (.i 9999))]⟩,
    ⟨none, some 32, .pick (.t 28) (.t 31) (.k (.c (.b false)))⟩,
    ⟨none, some 2, .mv (.t 32)⟩])
 (.ret))
theorem h_impl_EntryOk : Has Try.prog n_impl_EntryOk 33 c_impl_EntryOk [.t 2] := ⟨by decide, Try.f31, _, Try.func31, rfl, rfl, by kernel_rfl, by kernel_rfl⟩

def c_laws_FnExactBookOk : SC :=
 .seq (.reg [
    ⟨none, some 2, .mv (.k (.c (.b false)))⟩])
 (.seq (.reg [
    ⟨none, some 3, .mv (.k (.c (.i 1048576)))⟩])
 (.seq (.reg [
    ⟨none, some 7, .mv (.t 0)⟩,
    ⟨none, some 8, .mv (.t 3)⟩,
    ⟨none, some 9, .call n_laws_szEntryS [.t 7, .t 8]⟩,
    ⟨none, some 3, .mv (.t 9)⟩])
 (.seq (.seq (.reg [
     ⟨none, some 10, .mv (.t 3)⟩,
     ⟨none, some 11, .bin .lss (.t 10) (.k (.c (.i 0)))⟩])
  (.cond (.t 11)
   (.seq (.reg [
       ⟨none, some 2, .mv (.k (.c (.b true)))⟩])
    (.ret))
   (.skip)))
 (.seq (.reg [
    ⟨none, some 12, .mv (.t 0)⟩,
    ⟨none, some 13, .call n_laws_toEntryS [.t 12]⟩,
    ⟨none, some 14, .call n_spec_BookOk [.t 13]⟩,
    ⟨none, some 4, .mv (.t 14)⟩])
 (.seq (.reg [
    ⟨none, some 15, .mv (.t 0)⟩,
    ⟨none, some 16, .call n_laws_toEntryS [.t 15]⟩,
    ⟨none, some 5, .mv (.t 16)⟩])
 (.seq (.reg [
    ⟨none, some 17, .mv (.t 5)⟩,
    ⟨none, some 18, .call n_impl_BookOk [.t 17]⟩,
    ⟨none, some 6, .mv (.t 18)⟩])
 (.seq (.seq (.reg [
     ⟨none, some 19, .mv (.t 6)⟩,
     ⟨none, some 20, .mv (.t 4)⟩,
     ⟨none, some 21, .beq true (.t 19) (.t 20)⟩])
  (.cond (.t 21)
   (.seq (.reg [
       ⟨none, some 2, .mv (.k (.c (.b false)))⟩])
    (.ret))
   (.skip)))
 (.seq (.seq (.reg [
     ⟨none, some 22, .mv (.t 5)⟩,
     ⟨none, some 23, .mv (.t 0)⟩,
     ⟨none, some 24, .call n_laws_toEntryS [.t 23]⟩,
     ⟨none, some 25, .call n_laws_eqEntryS [.t 22, .t 24]⟩,
     ⟨none, some 26, .not (.t 25)⟩])
  (.cond (.t 26)
   (.seq (.reg [
       ⟨none, some 2, .mv (.k (.c (.b false)))⟩])
    (.ret))
   (.skip)))
 (.seq (.reg [
    ⟨none, some 2, .mv (.k (.c (.b true)))⟩])
 (.ret))))))))))
theorem h_laws_FnExactBookOk : Has Try.prog n_laws_FnExactBookOk 27 c_laws_FnExactBookOk [.t 2] := ⟨by decide, Try.f5, _, Try.func5, rfl, rfl, by kernel_rfl, by kernel_rfl⟩

def c_laws_szEntryS : SC :=
 .seq (.reg [
    ⟨none, some 4, .mv (.k (.c (.i 0)))⟩])
 (.seq (.reg [
    ⟨none, some 5, .mv (.t 1)⟩,
    ⟨none, some 6, .mv (.t 0)⟩,
    ⟨none, some 7, .len (.t 6)⟩,
    ⟨none, some 8, .bin .sub (.t 5) (.t 7)⟩,
    ⟨none, some 1, .mv (.t 8)⟩])
 (.seq (.seq (.reg [
     ⟨none, some 9, .mv (.t 1)⟩,
     ⟨none, some 10, .bin .lss (.t 9) (.k (.c (.i 0)))⟩])
  (.cond (.t 10)
   (.seq (.reg [
       ⟨none, some 4, .mv (.k (.c (.i (-1))))⟩])
    (.ret))
   (.skip)))
 (.seq (.reg [
    ⟨none, some 11, .mv (.t 1)⟩,
    ⟨none, some 4, .mv (.t 11)⟩])
 (.ret))))
theorem h_laws_szEntryS : Has Try.prog n_laws_szEntryS 12 c_laws_szEntryS [.t 4] := ⟨by decide, Try.f32, _, Try.func32, rfl, rfl, by kernel_rfl, by kernel_rfl⟩

def c_spec_BookOk : SC :=
 .seq (.reg [
    ⟨none, some 2, .mv (.k (.c (.b false)))⟩])
 (.seq (.seq (.reg [
     ⟨none, some 3, .mv (.k (.c (.i 0)))⟩])
  (.block 0 (.loop (.seq (.seq (.reg [
        ⟨none, some 4, .mv (.t 3)⟩,
        ⟨none, some 5, .mv (.t 0)⟩,
        ⟨none, some 6, .len (.t 5)⟩,
        ⟨none, some 7, .bin .lss (.t 4) (.t 6)⟩])
     (.cond (.t 7)
      (.skip)
      (.exit 0)))
    (.seq (.block 1 (.seq (.reg [
         ⟨none, some 10, .mv (.t 0)⟩,
         ⟨none, some 11, .mv (.t 3)⟩,
         ⟨none, some 12, .idx 5 (.t 10) (.t 11)⟩,
         ⟨none, some 13, .ldn 5 (.t 12)⟩,
         ⟨none, some 14, .call n_spec_EntryOk [.t 13]⟩,
         ⟨none, some 15, .not (.t 14)⟩])
      (.cond (.t 15)
       (.seq (.reg [
           ⟨none, some 2, .mv (.k (.c (.b false)))⟩])
        (.ret))
       (.skip))))
    (.reg [
      ⟨none, some 8, .mv (.t 3)⟩,
      ⟨none, some 9, .bin .add (.t 8) (.k (.c (.i 1)))⟩,
      ⟨none, some 3, .mv (.t 9)⟩]))))))
 (.seq (.reg [
    ⟨none, some 16, .mv (.t 0)⟩,
    ⟨none, some 17, .len (.t 16)⟩,
    ⟨none, some 18, .bin .leq (.t 17) (.k (.c (.i 2000)))⟩,
    ⟨none, some 2, .mv (.t 18)⟩])
 (.ret)))
theorem h_spec_BookOk : Has Try.prog n_spec_BookOk 19 c_spec_BookOk [.t 2] := ⟨by decide, Try.f33, _, Try.func33, rfl, rfl, by kernel_rfl, by kernel_rfl⟩

def c_laws_toEntryS : SC :=
 .seq (.reg [
    ⟨none, some 2, .mv (.k (.nil 5))⟩])
 (.seq (.reg [
    ⟨none, some 5, .mv (.t 0)⟩,
    ⟨none, some 6, .len (.t 5)⟩,
    ⟨none, some 7, .mks 5 40 [.i 0, .i 0, .i 0, .i 0, .i 0] (.t 6) (.t 6)⟩,
    ⟨none, some 3, .mv (.t 7)⟩])
 (.seq (.seq (.reg [
     ⟨none, some 4, .mv (.k (.c (.i 0)))⟩])
  (.block 0 (.loop (.seq (.seq (.reg [
        ⟨none, some 8, .mv (.t 4)⟩,
        ⟨none, some 9, .mv (.t 0)⟩,
        ⟨none, some 10, .len (.t 9)⟩,
        ⟨none, some 11, .bin .lss (.t 8) (.t 10)⟩])
     (.cond (.t 11)
      (.skip)
      (.exit 0)))
    (.seq (.block 1 (.reg [
        ⟨none, some 14, .mv (.t 3)⟩,
        ⟨none, some 15, .mv (.t 4)⟩,
        ⟨none, some 16, .mv (.t 0)⟩,
        ⟨none, some 17, .mv (.t 4)⟩,
        ⟨none, some 18, .idx 5 (.t 16) (.t 17)⟩,
        ⟨none, some 19, .ldn 5 (.t 18)⟩,
        ⟨none, some 20, .call n_laws_toEntry [.t 19]⟩,
        ⟨none, some 21, .idx 5 (.t 14) (.t 15)⟩,
        ⟨none, none, .stn 5 (.t 21) (.t 20)⟩]))
    (.reg [
      ⟨none, some 12, .mv (.t 4)⟩,
      ⟨none, some 13, .bin .add (.t 12) (.k (.c (.i 1)))⟩,
      ⟨none, some 4, .mv (.t 13)⟩]))))))
 (.seq (.reg [
    ⟨none, some 22, .mv (.t 3)⟩,
    ⟨none, some 2, .mv (.t 22)⟩])
 (.ret))))
theorem h_laws_toEntryS : Has Try.prog n_laws_toEntryS 23 c_laws_toEntryS [.t 2] := ⟨by decide, Try.f34, _, Try.func34, rfl, rfl, by kernel_rfl, by kernel_rfl⟩

def c_impl_BookOk : SC :=
 .seq (.reg [
    ⟨none, some 2, .mv (.k (.c (.b false)))⟩])
 (.seq (.seq (.reg [
     ⟨none, some 5, .mv (.t 0)⟩,
     ⟨none, some 6, .len (.t 5)⟩,
     ⟨none, some 7, .bin .gtr (.t 6) (.k (.c (.i 2000)))⟩])
  (.cond (.t 7)
   (.seq (.reg [
       ⟨none, some 2, .mv (.k (.c (.b false)))⟩])
    (.ret))
   (.skip)))
 (.seq (.seq (.reg [
     ⟨none, some 8, .mv (.t 0)⟩,
     ⟨none, some 9, .len (.t 8)⟩,
     ⟨none, some 10, .mv (.k (.c (.i 0)))⟩])
  (.block 0 (.loop (.seq (.reg [
       ⟨none, some 11, .bin .lss (.t 10) (.t 9)⟩])
    (.seq (.cond (.t 11)
      (.skip)
      (.exit 0))
    (.seq (.block 1 (.seq (.reg [
         ⟨none, some 12, .idx 5 (.t 8) (.t 10)⟩,
         ⟨none, some 13, .ldn 5 (.t 12)⟩,
         ⟨none, some 4, .alloc [.c (.i 0), .c (.i 0), .c (.i 0), .c (.i 0), .c (.i 0)]⟩,
         ⟨none, none, .stn 5 (.t 4) (.t 13)⟩])
      (.seq (.reg [
         ⟨none, some 14, .ldn 5 (.t 4)⟩,
         ⟨none, some 15, .call n_impl_EntryOk [.t 14]⟩,
         ⟨none, some 16, .not (.t 15)⟩])
      (.cond (.t 16)
       (.seq (.reg [
           ⟨none, some 2, .mv (.k (.c (.b false)))⟩])
        (.ret))
       (.skip)))))
    (.reg [
      ⟨none, some 17, .bin .add (.t 10) (.k (.c (.i 1)))⟩,
      ⟨none, some 10, .mv (.t 17)⟩])))))))
 (.seq (.reg [
    ⟨none, some 2, .mv (.k (.c (.b true)))⟩])
 (.ret))))
theorem h_impl_BookOk : Has Try.prog n_impl_BookOk 18 c_impl_BookOk [.t 2] := ⟨by decide, Try.f35, _, Try.func35, rfl, rfl, by kernel_rfl, by kernel_rfl⟩

def c_laws_eqEntryS : SC :=
 .seq (.reg [
    ⟨none, some 4, .mv (.k (.c (.b false)))⟩])
 (.seq (.seq (.reg [
     ⟨none, some 6, .mv (.t 0)⟩,
     ⟨none, some 7, .len (.t 6)⟩,
     ⟨none, some 8, .mv (.t 1)⟩,
     ⟨none, some 9, .len (.t 8)⟩,
     ⟨none, some 10, .bin .neq (.t 7) (.t 9)⟩])
  (.cond (.t 10)
   (.seq (.reg [
       ⟨none, some 4, .mv (.k (.c (.b false)))⟩])
    (.ret))
   (.skip)))
 (.seq (.seq (.reg [
     ⟨none, some 5, .mv (.k (.c (.i 0)))⟩])
  (.block 0 (.loop (.seq (.seq (.reg [
        ⟨none, some 11, .mv (.t 5)⟩,
        ⟨none, some 12, .mv (.t 0)⟩,
        ⟨none, some 13, .len (.t 12)⟩,
        ⟨none, some 14, .bin .lss (.t 11) (.t 13)⟩])
     (.cond (.t 14)
      (.skip)
      (.exit 0)))
    (.seq (.block 1 (.seq (.regq [
         ⟨none, some 17, .mv (.t 0)⟩,
         ⟨none, some 18, .mv (.t 5)⟩,
         ⟨none, some 19, .idx 5 (.t 17) (.t 18)⟩,
         ⟨none, some 20, .ldn 5 (.t 19)⟩,
         ⟨none, some 21, .mv (.t 1)⟩,
         ⟨none, some 22, .mv (.t 5)⟩,
         ⟨none, some 23, .idx 5 (.t 21) (.t 22)⟩,
         ⟨none, some 24, .ldn 5 (.t 23)⟩,
         ⟨none, some 25, .call n_laws_eqEntry [.t 20, .t 24]⟩,
         ⟨none, some 26, .not (.t 25)⟩])
      (.cond (.t 26)
       (.seq (.reg [
           ⟨none, some 4, .mv (.k (.c (.b false)))⟩])
        (.ret))
       (.skip))))
    (.reg [
      ⟨none, some 15, .mv (.t 5)⟩,
      ⟨none, some 16, .bin .add (.t 15) (.k (.c (.i 1)))⟩,
      ⟨none, some 5, .mv (.t 16)⟩]))))))
 (.seq (.reg [
    ⟨none, some 4, .mv (.k (.c (.b true)))⟩])
 (.ret))))
theorem h_laws_eqEntryS : Has Try.prog n_laws_eqEntryS 27 c_laws_eqEntryS [.t 4] := ⟨by decide, Try.f36, _, Try.func36, rfl, rfl, by kernel_rfl, by kernel_rfl⟩

def c_laws_eqEntry : SC :=
 .seq (.reg [
    ⟨none, some 2, .box 5 (.t 0)⟩,
    ⟨none, some 3, .box 5 (.t 1)⟩,
    ⟨none, some 4, .mv (.k (.c (.b false)))⟩])
 (.seq (.seq (.reg [
     ⟨none, some 5, .fld 0 (.t 2)⟩,
     ⟨none, some 6, .ld1 (.t 5)⟩,
     ⟨none, some 7, .fld 0 (.t 3)⟩,
     ⟨none, some 8, .ld1 (.t 7)⟩,
     ⟨none, some 9, .bin .neq (.t 6) (.t 8)⟩])
  (.cond (.t 9)
   (.seq (.reg [
       ⟨none, some 4, .mv (.k (.c (.b false)))⟩])
    (.ret))
   (.skip)))
 (.seq (.seq (.reg [
     ⟨none, some 10, .fld 1 (.t 2)⟩,
     ⟨none, some 11, .ld1 (.t 10)⟩,
     ⟨none, some 12, .fld 1 (.t 3)⟩,
     ⟨none, some 13, .ld1 (.t 12)⟩,
     ⟨none, some 14, .bin .neq (.t 11) (.t 13)⟩])
  (.cond (.t 14)
   (.seq (.reg [
       ⟨none, some 4, .mv (.k (.c (.b false)))⟩])
    (.ret))
   (.skip)))
 (.seq (.seq (.reg [
     ⟨none, some 15, .fld 2 (.t 2)⟩,
     ⟨none, some 16, .ld1 (.t 15)⟩,
     ⟨none, some 17, .fld 2 (.t 3)⟩,
     ⟨none, some 18, .ld1 (.t 17)⟩,
     ⟨none, some 19, .bin .neq (.t 16) (.t 18)⟩])
  (.cond (.t 19)
   (.seq (.reg [
       ⟨none, some 4, .mv (.k (.c (.b false)))⟩])
    (.ret))
   (.skip)))
 (.seq (.seq (.reg [
     ⟨none, some 20, .fld 3 (.t 2)⟩,
     ⟨none, some 21, .ld1 (.t 20)⟩,
     ⟨none, some 22, .fld 3 (.t 3)⟩,
     ⟨none, some 23, .ld1 (.t 22)⟩,
     ⟨none, some 24, .bin .neq (.t 21) (.t 23)⟩])
  (.cond (.t 24)
   (.seq (.reg [
       ⟨none, some 4, .mv (.k (.c (.b false)))⟩])
    (.ret))
   (.skip)))
 (.seq (.seq (.reg [
     ⟨none, some 25, .fld 4 (.t 2)⟩,
     ⟨none, some 26, .ld1 (.t 25)⟩,
     ⟨none, some 27, .fld 4 (.t 3)⟩,
     ⟨none, some 28, .ld1 (.t 27)⟩,
     ⟨none, some 29, .bin .neq (.t 26) (.t 28)⟩])
  (.cond (.t 29)
   (.seq (.reg [
       ⟨none, some 4, .mv (.k (.c (.b false)))⟩])
    (.ret))
   (.skip)))
 (.seq (.reg [
    ⟨none, some 4, .mv (.k (.c (.b true)))⟩])
 (.ret)))))))
theorem h_laws_eqEntry : Has Try.prog n_laws_eqEntry 30 c_laws_eqEntry [.t 4] := ⟨by decide, Try.f121, _, Try.func121, rfl, rfl, by kernel_rfl, by kernel_rfl⟩

def c_laws_FnExactTariffOk : SC :=
 .seq (.reg [
    ⟨none, some 1, .box 4 (.t 0)⟩,
    ⟨none, some 2, .mv (.k (.c (.b false)))⟩])
 (.seq (.reg [
    ⟨none, some 3, .mv (.k (.c (.i 1048576)))⟩])
 (.seq (.reg [
    ⟨none, some 7, .ldn 4 (.t 1)⟩,
    ⟨none, some 8, .mv (.t 3)⟩,
    ⟨none, some 9, .call n_laws_szTariff [.t 7, .t 8]⟩,
    ⟨none, some 3, .mv (.t 9)⟩])
 (.seq (.seq (.reg [
     ⟨none, some 10, .mv (.t 3)⟩,
     ⟨none, some 11, .bin .lss (.t 10) (.k (.c (.i 0)))⟩])
  (.cond (.t 11)
   (.seq (.reg [
       ⟨none, some 2, .mv (.k (.c (.b true)))⟩])
    (.ret))
   (.skip)))
 (.seq (.reg [
    ⟨none, some 12, .ldn 4 (.t 1)⟩,
    ⟨none, some 13, .call n_laws_toTariff [.t 12]⟩,
    ⟨none, some 14, .call n_spec_TariffOk [.t 13]⟩,
    ⟨none, some 4, .mv (.t 14)⟩])
 (.seq (.reg [
    ⟨none, some 15, .ldn 4 (.t 1)⟩,
    ⟨none, some 16, .call n_laws_toTariff [.t 15]⟩,
    ⟨none, some 5, .alloc [.c (.i 0), .c (.i 0), .nil 1, .nil 1]⟩,
    ⟨none, none, .stn 4 (.t 5) (.t 16)⟩])
 (.seq (.reg [
    ⟨none, some 17, .ldn 4 (.t 5)⟩,
    ⟨none, some 18, .call n_impl_TariffOk [.t 17]⟩,
    ⟨none, some 6, .mv (.t 18)⟩])
 (.seq (.seq (.reg [
     ⟨none, some 19, .mv (.t 6)⟩,
     ⟨none, some 20, .mv (.t 4)⟩,
     ⟨none, some 21, .beq true (.t 19) (.t 20)⟩])
  (.cond (.t 21)
   (.seq (.reg [
       ⟨none, some 2, .mv (.k (.c (.b false)))⟩])
    (.ret))
   (.skip)))
 (.seq (.seq (.regq [
     ⟨none, some 22, .ldn 4 (.t 5)⟩,
     ⟨none, some 23, .ldn 4 (.t 1)⟩,
     ⟨none, some 24, .call n_laws_toTariff [.t 23]⟩,
     ⟨none, some 25, .call n_laws_eqTariff [.t 22, .t 24]⟩,
     ⟨none, some 26, .not (.t 25)⟩])
  (.cond (.t 26)
   (.seq (.reg [
       ⟨none, some 2, .mv (.k (.c (.b false)))⟩])
    (.ret))
   (.skip)))
 (.seq (.reg [
    ⟨none, some 2, .mv (.k (.c (.b true)))⟩])
 (.ret))))))))))
theorem h_laws_FnExactTariffOk : Has Try.prog n_laws_FnExactTariffOk 27 c_laws_FnExactTariffOk [.t 2] := ⟨by decide, Try.f6, _, Try.func6, rfl, rfl, by kernel_rfl, by kernel_rfl⟩

def c_laws_szTariff : SC :=
 .seq (.reg [
    ⟨none, some 2, .box 4 (.t 0)⟩,
    ⟨none, some 4, .mv (.k (.c (.i 0)))⟩])
 (.seq (.reg [
    ⟨none, some 5, .fld 2 (.t 2)⟩,
    ⟨none, some 6, .ld1 (.t 5)⟩,
    ⟨none, some 7, .mv (.t 1)⟩,
    ⟨none, some 8, .call n_laws_szIntS [.t 6, .t 7]⟩,
    ⟨none, some 1, .mv (.t 8)⟩])
 (.seq (.seq (.reg [
     ⟨none, some 9, .mv (.t 1)⟩,
     ⟨none, some 10, .bin .lss (.t 9) (.k (.c (.i 0)))⟩])
  (.cond (.t 10)
   (.seq (.reg [
       ⟨none, some 4, .mv (.k (.c (.i (-1))))⟩])
    (.ret))
   (.skip)))
 (.seq (.reg [
    ⟨none, some 11, .fld 3 (.t 2)⟩,
    ⟨none, some 12, .ld1 (.t 11)⟩,
    ⟨none, some 13, .mv (.t 1)⟩,
    ⟨none, some 14, .call n_laws_szIntS [.t 12, .t 13]⟩,
    ⟨none, some 1, .mv (.t 14)⟩])
 (.seq (.seq (.reg [
     ⟨none, some 15, .mv (.t 1)⟩,
     ⟨none, some 16, .bin .lss (.t 15) (.k (.c (.i 0)))⟩])
  (.cond (.t 16)
   (.seq (.reg [
       ⟨none, some 4, .mv (.k (.c (.i (-1))))⟩])
    (.ret))
   (.skip)))
 (.seq (.reg [
    ⟨none, some 17, .mv (.t 1)⟩,
    ⟨none, some 4, .mv (.t 17)⟩])
 (.ret))))))
theorem h_laws_szTariff : Has Try.prog n_laws_szTariff 18 c_laws_szTariff [.t 4] := ⟨by decide, Try.f37, _, Try.func37, rfl, rfl, by kernel_rfl, by kernel_rfl⟩

def c_spec_TariffOk : SC :=
 .seq (.reg [
    ⟨none, some 1, .box 4 (.t 0)⟩,
    ⟨none, some 2, .mv (.k (.c (.b false)))⟩])
 (.seq (.seq (.reg [
     ⟨none, some 6, .fld 0 (.t 1)⟩,
     ⟨none, some 7, .ld1 (.t 6)⟩,
     ⟨none, some 8, .call n_spec_l01In [.t 7, .k (.c (.i 0)), .k (.c (.i 10000))]⟩,
     ⟨none, some 9, .not (.t 8)⟩,
     ⟨none, some 10, .mv (.t 9)⟩,
     ⟨some (10, false), some 11, .fld 1 (.t 1)⟩,
     ⟨some (10, false), some 12, .ld1 (.t 11)⟩,
     ⟨some (10, false), some 13, .call n_spec_l01In [.t 12, .k (.c (.i 0)), .k (.c (.i 100))]⟩,
     ⟨some (10, false), some 14, .not (.t 13)⟩,
     ⟨none, some 15, .pick (.t 10) (.k (.c (.b true))) (.t 14)⟩,
     ⟨none, some 16, .mv (.t 15)⟩,
     ⟨some (16, false), some 17, .fld 2 (.t 1)⟩,
     ⟨some (16, false), some 18, .ld1 (.t 17)⟩,
     ⟨some (16, false), some 19, .len (.t 18)⟩,
     ⟨some (16, false), some 20, .bin .neq (.t 19) (.k (.c (.i 3)))⟩,
     ⟨none, some 21, .pick (.t 16) (.k (.c (.b true))) (.t 20)⟩,
     ⟨none, some 22, .mv (.t 21)⟩,
     ⟨some (22, false), some 23, .fld 3 (.t 1)⟩,
     ⟨some (22, false), some 24, .ld1 (.t 23)⟩,
     ⟨some (22, false), some 25, .len (.t 24)⟩,
     ⟨some (22, false), some 26, .call n_spec_l01In [.t 25, .k (.c (.i 1)), .k (.c (.i 11))]⟩,
     ⟨some (22, false), some 27, .not (.t 26)⟩,
     ⟨none, some 28, .pick (.t 22) (.k (.c (.b true))) (.t 27)⟩])
  (.cond (.t 28)
   (.seq (.reg [
       ⟨none, some 2, .mv (.k (.c (.b false)))⟩])
    (.ret))
   (.skip)))
 (.seq (.seq (.reg [
     ⟨none, some 3, .mv (.k (.c (.i 0)))⟩])
  (.block 0 (.loop (.seq (.seq (.reg [
        ⟨none, some 29, .mv (.t 3)⟩,
        ⟨none, some 30, .bin .lss (.t 29) (.k (.c (.i 3)))⟩])
     (.cond (.t 30)
      (.skip)
      (.exit 0)))
    (.seq (.block 1 (.seq (.reg [
         ⟨none, some 33, .fld 2 (.t 1)⟩,
         ⟨none, some 34, .ld1 (.t 33)⟩,
         ⟨none, some 35, .mv (.t 3)⟩,
         ⟨none, some 36, .idx 1 (.t 34) (.t 35)⟩,
         ⟨none, some 37, .ld1 (.t 36)⟩,
         ⟨none, some 38, .call n_spec_l01In [.t 37, .k (.c (.i 0)), .k (.c (.i 10000))]⟩,
         ⟨none, some 39, .not (.t 38)⟩])
      (.cond (.t 39)
       (.seq (.reg [
           ⟨none, some 2, .mv (.k (.c (.b false)))⟩])
        (.ret))
       (.skip))))
    (.reg [
      ⟨none, some 31, .mv (.t 3)⟩,
      ⟨none, some 32, .bin .add (.t 31) (.k (.c (.i 1)))⟩,
      ⟨none, some 3, .mv (.t 32)⟩]))))))
 (.seq (.reg [
    ⟨none, some 4, .mv (.k (.c (.i 0)))⟩])
 (.seq (.seq (.reg [
     ⟨none, some 5, .mv (.k (.c (.i 0)))⟩])
  (.block 2 (.loop (.seq (.seq (.reg [
        ⟨none, some 40, .mv (.t 5)⟩,
        ⟨none, some 41, .fld 3 (.t 1)⟩,
        ⟨none, some 42, .ld1 (.t 41)⟩,
        ⟨none, some 43, .len (.t 42)⟩,
        ⟨none, some 44, .bin .lss (.t 40) (.t 43)⟩])
     (.cond (.t 44)
      (.skip)
      (.exit 2)))
    (.seq (.block 3 (.seq (.seq (.reg [
          ⟨none, some 47, .fld 3 (.t 1)⟩,
          ⟨none, some 48, .ld1 (.t 47)⟩,
          ⟨none, some 49, .mv (.t 5)⟩,
          ⟨none, some 50, .idx 1 (.t 48) (.t 49)⟩,
          ⟨none, some 51, .ld1 (.t 50)⟩,
          ⟨none, some 52, .call n_spec_l01In [.t 51, .k (.c (.i 0)), .k (.c (.i 1000))]⟩,
          ⟨none, some 53, .not (.t 52)⟩])
       (.cond (.t 53)
        (.seq (.reg [
            ⟨none, some 2, .mv (.k (.c (.b false)))⟩])
         (.ret))
        (.skip)))
      (.reg [
        ⟨none, some 54, .mv (.t 4)⟩,
        ⟨none, some 55, .fld 3 (.t 1)⟩,
        ⟨none, some 56, .ld1 (.t 55)⟩,
        ⟨none, some 57, .mv (.t 5)⟩,
        ⟨none, some 58, .idx 1 (.t 56) (.t 57)⟩,
        ⟨none, some 59, .ld1 (.t 58)⟩,
        ⟨none, some 60, .bin .add (.t 54) (.t 59)⟩,
        ⟨none, some 4, .mv (.t 60)⟩])))
    (.reg [
      ⟨none, some 45, .mv (.t 5)⟩,
      ⟨none, some 46, .bin .add (.t 45) (.k (.c (.i 1)))⟩,
      ⟨none, some 5, .mv (.t 46)⟩]))))))
 (.seq (.reg [
    ⟨none, some 61, .mv (.t 4)⟩,
    ⟨none, some 62, .bin .gtr (.t 61) (.k (.c (.i 0)))⟩,
    ⟨none, some 2, .mv (.t 62)⟩])
 (.ret))))))
theorem h_spec_TariffOk : Has Try.prog n_spec_TariffOk 63 c_spec_TariffOk [.t 2] := ⟨by decide, Try.f38, _, Try.func38, rfl, rfl, by kernel_rfl, by kernel_rfl⟩

def c_laws_toTariff : SC :=
 .seq (.reg [
    ⟨none, some 1, .box 4 (.t 0)⟩,
    ⟨none, some 2, .alloc [.c (.i 0), .c (.i 0), .nil 1, .nil 1]⟩])
 (.seq (.reg [
    ⟨none, some 3, .alloc [.c (.i 0), .c (.i 0), .nil 1, .nil 1]⟩])
 (.seq (.reg [
    ⟨none, some 4, .fld 0 (.t 1)⟩,
    ⟨none, some 5, .ld1 (.t 4)⟩,
    ⟨none, some 6, .fld 0 (.t 3)⟩,
    ⟨none, none, .st1 (.t 6) (.t 5)⟩])
 (.seq (.reg [
    ⟨none, some 7, .fld 1 (.t 1)⟩,
    ⟨none, some 8, .ld1 (.t 7)⟩,
    ⟨none, some 9, .fld 1 (.t 3)⟩,
    ⟨none, none, .st1 (.t 9) (.t 8)⟩])
 (.seq (.reg [
    ⟨none, some 10, .fld 2 (.t 1)⟩,
    ⟨none, some 11, .ld1 (.t 10)⟩,
    ⟨none, some 12, .call n_laws_toIntS [.t 11]⟩,
    ⟨none, some 13, .fld 2 (.t 3)⟩,
    ⟨none, none, .st1 (.t 13) (.t 12)⟩])
 (.seq (.reg [
    ⟨none, some 14, .fld 3 (.t 1)⟩,
    ⟨none, some 15, .ld1 (.t 14)⟩,
    ⟨none, some 16, .call n_laws_toIntS [.t 15]⟩,
    ⟨none, some 17, .fld 3 (.t 3)⟩,
    ⟨none, none, .st1 (.t 17) (.t 16)⟩])
 (.seq (.reg [
    ⟨none, some 18, .ldn 4 (.t 3)⟩,
    ⟨none, none, .stn 4 (.t 2) (.t 18)⟩])
 (.ret)))))))
theorem h_laws_toTariff : Has Try.prog n_laws_toTariff 19 c_laws_toTariff [.cl 2 4] := ⟨by decide, Try.f39, _, Try.func39, rfl, rfl, by kernel_rfl, by kernel_rfl⟩

def c_impl_TariffOk : SC :=
 .seq (.reg [
    ⟨none, some 1, .box 4 (.t 0)⟩,
    ⟨none, some 2, .mv (.k (.c (.b false)))⟩])
 (.seq (.seq (.reg [
     ⟨none, some 8, .fld 0 (.t 1)⟩,
     ⟨none, some 9, .ld1 (.t 8)⟩,
     ⟨none, some 10, .call n_impl_inRange [.t 9, .k (.c (.i 0)), .k (.c (.i 10000))]⟩,
     ⟨none, some 11, .not (.t 10)⟩,
     ⟨none, some 12, .mv (.t 11)⟩,
     ⟨some (12, false), some 13, .fld 1 (.t 1)⟩,
     ⟨some (12, false), some 14, .ld1 (.t 13)⟩,
     ⟨some (12, false), some 15, .call n_impl_inRange [.t 14, .k (.c (.i 0)), .k (.c (.i 100))]⟩,
     ⟨some (12, false), some 16, .not (.t 15)⟩,
     ⟨none, some 17, .pick (.t 12) (.k (.c (.b true))) (.t 16)⟩,
     ⟨none, some 18, .mv (.t 17)⟩,
     ⟨some (18, false), some 19, .fld 2 (.t 1)⟩,
     ⟨some (18, false), some 20, .ld1 (.t 19)⟩,
     ⟨some (18, false), some 21, .len (.t 20)⟩,
     ⟨some (18, false), some 22, .bin .neq (.t 21) (.k (.c (.i 3)))⟩,
     ⟨none, some 23, .pick (.t 18) (.k (.c (.b true))) (.t 22)⟩,
     ⟨none, some 24, .mv (.t 23)⟩,
     ⟨some (24, false), some 25, .fld 3 (.t 1)⟩,
     ⟨some (24, false), some 26, .ld1 (.t 25)⟩,
     ⟨some (24, false), some 27, .len (.t 26)⟩,
     ⟨some (24, false), some 28, .bin .lss (.t 27) (.k (.c (.i 1)))⟩,
     ⟨none, some 29, .pick (.t 24) (.k (.c (.b true))) (.t 28)⟩,
     ⟨none, some 30, .mv (.t 29)⟩,
     ⟨some (30, false), some 31, .fld 3 (.t 1)⟩,
     ⟨some (30, false), some 32, .ld1 (.t 31)⟩,
     ⟨some (30, false), some 33, .len (.t 32)⟩,
     ⟨some (30, false), some 34, .bin .gtr (.t 33) (.k (.c (.i 11)))⟩,
     ⟨none, some 35, .pick (.t 30) (.k (.c (.b true))) (.t 34)⟩])
  (.cond (.t 35)
   (.seq (.reg [
       ⟨none, some 2, .mv (.k (.c (.b false)))⟩])
    (.ret))
   (.skip)))
 (.seq (.seq (.reg [
     ⟨none, some 36, .fld 2 (.t 1)⟩,
     ⟨none, some 37, .ld1 (.t 36)⟩,
     ⟨none, some 38, .len (.t 37)⟩,
     ⟨none, some 39, .mv (.k (.c (.i 0)))⟩])
  (.block 0 (.loop (.seq (.reg [
       ⟨none, some 40, .bin .lss (.t 39) (.t 38)⟩])
    (.seq (.cond (.t 40)
      (.skip)
      (.exit 0))
    (.seq (.block 1 (.seq (.reg [
         ⟨none, some 41, .idx 1 (.t 37) (.t 39)⟩,
         ⟨none, some 42, .ld1 (.t 41)⟩,
         ⟨none, some 4, .mv (.t 42)⟩])
      (.seq (.reg [
         ⟨none, some 43, .mv (.t 4)⟩,
         ⟨none, some 44, .call n_impl_inRange [.t 43, .k (.c (.i 0)), .k (.c (.i 10000))]⟩,
         ⟨none, some 45, .not (.t 44)⟩])
      (.cond (.t 45)
       (.seq (.reg [
           ⟨none, some 2, .mv (.k (.c (.b false)))⟩])
        (.ret))
       (.skip)))))
    (.reg [
      ⟨none, some 46, .bin .add (.t 39) (.k (.c (.i 1)))⟩,
      ⟨none, some 39, .mv (.t 46)⟩])))))))
 (.seq (.reg [
    ⟨none, some 5, .mv (.k (.c (.i 0)))⟩])
 (.seq (.seq (.reg [
     ⟨none, some 47, .fld 3 (.t 1)⟩,
     ⟨none, some 48, .ld1 (.t 47)⟩,
     ⟨none, some 49, .len (.t 48)⟩,
     ⟨none, some 50, .mv (.k (.c (.i 0)))⟩])
  (.block 2 (.loop (.seq (.reg [
       ⟨none, some 51, .bin .lss (.t 50) (.t 49)⟩])
    (.seq (.cond (.t 51)
      (.skip)
      (.exit 2))
    (.seq (.block 3 (.seq (.reg [
         ⟨none, some 52, .idx 1 (.t 48) (.t 50)⟩,
         ⟨none, some 53, .ld1 (.t 52)⟩,
         ⟨none, some 7, .mv (.t 53)⟩])
      (.seq (.seq (.reg [
          ⟨none, some 54, .mv (.t 7)⟩,
          ⟨none, some 55, .call n_impl_inRange [.t 54, .k (.c (.i 0)), .k (.c (.i 1000))]⟩,
          ⟨none, some 56, .not (.t 55)⟩])
       (.cond (.t 56)
        (.seq (.reg [
            ⟨none, some 2, .mv (.k (.c (.b false)))⟩])
         (.ret))
        (.skip)))
      (.reg [
        ⟨none, some 57, .mv (.t 5)⟩,
        ⟨none, some 58, .mv (.t 7)⟩,
        ⟨none, some 59, .bin .add (.t 57) (.t 58)⟩,
        ⟨none, some 5, .mv (.t 59)⟩]))))
    (.reg [
      ⟨none, some 60, .bin .add (.t 50) (.k (.c (.i 1)))⟩,
      ⟨none, some 50, .mv (.t 60)⟩])))))))
 (.seq (.reg [
    ⟨none, some 61, .mv (.t 5)⟩,
    ⟨none, some 62, .bin .gtr (.t 61) (.k (.c (.i 0)))⟩,
    ⟨none, some 2, .mv (.t 62)⟩])
 (.ret))))))
theorem h_impl_TariffOk : Has Try.prog n_impl_TariffOk 63 c_impl_TariffOk [.t 2] := ⟨by decide, Try.f40, _, Try.func40, rfl, rfl, by kernel_rfl, by kernel_rfl⟩

def c_laws_eqTariff : SC :=
 .seq (.reg [
    ⟨none, some 2, .box 4 (.t 0)⟩,
    ⟨none, some 3, .box 4 (.t 1)⟩,
    ⟨none, some 4, .mv (.k (.c (.b false)))⟩])
 (.seq (.seq (.reg [
     ⟨none, some 5, .fld 0 (.t 2)⟩,
     ⟨none, some 6, .ld1 (.t 5)⟩,
     ⟨none, some 7, .fld 0 (.t 3)⟩,
     ⟨none, some 8, .ld1 (.t 7)⟩,
     ⟨none, some 9, .bin .neq (.t 6) (.t 8)⟩])
  (.cond (.t 9)
   (.seq (.reg [
       ⟨none, some 4, .mv (.k (.c (.b false)))⟩])
    (.ret))
   (.skip)))
 (.seq (.seq (.reg [
     ⟨none, some 10, .fld 1 (.t 2)⟩,
     ⟨none, some 11, .ld1 (.t 10)⟩,
     ⟨none, some 12, .fld 1 (.t 3)⟩,
     ⟨none, some 13, .ld1 (.t 12)⟩,
     ⟨none, some 14, .bin .neq (.t 11) (.t 13)⟩])
  (.cond (.t 14)
   (.seq (.reg [
       ⟨none, some 4, .mv (.k (.c (.b false)))⟩])
    (.ret))
   (.skip)))
 (.seq (.seq (.reg [
     ⟨none, some 15, .fld 2 (.t 2)⟩,
     ⟨none, some 16, .ld1 (.t 15)⟩,
     ⟨none, some 17, .fld 2 (.t 3)⟩,
     ⟨none, some 18, .ld1 (.t 17)⟩,
     ⟨none, some 19, .call n_laws_eqIntS [.t 16, .t 18]⟩,
     ⟨none, some 20, .not (.t 19)⟩])
  (.cond (.t 20)
   (.seq (.reg [
       ⟨none, some 4, .mv (.k (.c (.b false)))⟩])
    (.ret))
   (.skip)))
 (.seq (.seq (.reg [
     ⟨none, some 21, .fld 3 (.t 2)⟩,
     ⟨none, some 22, .ld1 (.t 21)⟩,
     ⟨none, some 23, .fld 3 (.t 3)⟩,
     ⟨none, some 24, .ld1 (.t 23)⟩,
     ⟨none, some 25, .call n_laws_eqIntS [.t 22, .t 24]⟩,
     ⟨none, some 26, .not (.t 25)⟩])
  (.cond (.t 26)
   (.seq (.reg [
       ⟨none, some 4, .mv (.k (.c (.b false)))⟩])
    (.ret))
   (.skip)))
 (.seq (.reg [
    ⟨none, some 4, .mv (.k (.c (.b true)))⟩])
 (.ret))))))
theorem h_laws_eqTariff : Has Try.prog n_laws_eqTariff 27 c_laws_eqTariff [.t 4] := ⟨by decide, Try.f41, _, Try.func41, rfl, rfl, by kernel_rfl, by kernel_rfl⟩

def c_laws_eqIntS : SC :=
 .seq (.reg [
    ⟨none, some 4, .mv (.k (.c (.b false)))⟩])
 (.seq (.seq (.reg [
     ⟨none, some 6, .mv (.t 0)⟩,
     ⟨none, some 7, .len (.t 6)⟩,
     ⟨none, some 8, .mv (.t 1)⟩,
     ⟨none, some 9, .len (.t 8)⟩,
     ⟨none, some 10, .bin .neq (.t 7) (.t 9)⟩])
  (.cond (.t 10)
   (.seq (.reg [
       ⟨none, some 4, .mv (.k (.c (.b false)))⟩])
    (.ret))
   (.skip)))
 (.seq (.seq (.reg [
     ⟨none, some 5, .mv (.k (.c (.i 0)))⟩])
  (.block 0 (.loop (.seq (.seq (.reg [
        ⟨none, some 11, .mv (.t 5)⟩,
        ⟨none, some 12, .mv (.t 0)⟩,
        ⟨none, some 13, .len (.t 12)⟩,
        ⟨none, some 14, .bin .lss (.t 11) (.t 13)⟩])
     (.cond (.t 14)
      (.skip)
      (.exit 0)))
    (.seq (.block 1 (.seq (.regq [
         ⟨none, some 17, .mv (.t 0)⟩,
         ⟨none, some 18, .mv (.t 5)⟩,
         ⟨none, some 19, .idx 1 (.t 17) (.t 18)⟩,
         ⟨none, some 20, .ld1 (.t 19)⟩,
         ⟨none, some 21, .mv (.t 1)⟩,
         ⟨none, some 22, .mv (.t 5)⟩,
         ⟨none, some 23, .idx 1 (.t 21) (.t 22)⟩,
         ⟨none, some 24, .ld1 (.t 23)⟩,
         ⟨none, some 25, .bin .neq (.t 20) (.t 24)⟩])
      (.cond (.t 25)
       (.seq (.reg [
           ⟨none, some 4, .mv (.k (.c (.b false)))⟩])
        (.ret))
       (.skip))))
    (.reg [
      ⟨none, some 15, .mv (.t 5)⟩,
      ⟨none, some 16, .bin .add (.t 15) (.k (.c (.i 1)))⟩,
      ⟨none, some 5, .mv (.t 16)⟩]))))))
 (.seq (.reg [
    ⟨none, some 4, .mv (.k (.c (.b true)))⟩])
 (.ret))))
theorem h_laws_eqIntS : Has Try.prog n_laws_eqIntS 26 c_laws_eqIntS [.t 4] := ⟨by decide, Try.f44, _, Try.func44, rfl, rfl, by kernel_rfl, by kernel_rfl⟩

def c_laws_toIntS : SC :=
 .seq (.reg [
    ⟨none, some 2, .mv (.k (.nil 1))⟩])
 (.seq (.reg [
    ⟨none, some 5, .mv (.t 0)⟩,
    ⟨none, some 6, .len (.t 5)⟩,
    ⟨none, some 7, .mks 1 8 [.i 0] (.t 6) (.t 6)⟩,
    ⟨none, some 3, .mv (.t 7)⟩])
 (.seq (.seq (.reg [
     ⟨none, some 4, .mv (.k (.c (.i 0)))⟩])
  (.block 0 (.loop (.seq (.seq (.reg [
        ⟨none, some 8, .mv (.t 4)⟩,
        ⟨none, some 9, .mv (.t 0)⟩,
        ⟨none, some 10, .len (.t 9)⟩,
        ⟨none, some 11, .bin .lss (.t 8) (.t 10)⟩])
     (.cond (.t 11)
      (.skip)
      (.exit 0)))
    (.seq (.block 1 (.reg [
        ⟨none, some 14, .mv (.t 3)⟩,
        ⟨none, some 15, .mv (.t 4)⟩,
        ⟨none, some 16, .mv (.t 0)⟩,
        ⟨none, some 17, .mv (.t 4)⟩,
        ⟨none, some 18, .idx 1 (.t 16) (.t 17)⟩,
        ⟨none, some 19, .ld1 (.t 18)⟩,
        ⟨none, some 20, .idx 1 (.t 14) (.t 15)⟩,
        ⟨none, none, .st1 (.t 20) (.t 19)⟩]))
    (.reg [
      ⟨none, some 12, .mv (.t 4)⟩,
      ⟨none, some 13, .bin .add (.t 12) (.k (.c (.i 1)))⟩,
      ⟨none, some 4, .mv (.t 13)⟩]))))))
 (.seq (.reg [
    ⟨none, some 21, .mv (.t 3)⟩,
    ⟨none, some 2, .mv (.t 21)⟩])
 (.ret))))
theorem h_laws_toIntS : Has Try.prog n_laws_toIntS 22 c_laws_toIntS [.t 2] := ⟨by decide, Try.f60, _, Try.func60, rfl, rfl, by kernel_rfl, by kernel_rfl⟩

def c_laws_szIntS : SC :=
 .seq (.reg [
    ⟨none, some 4, .mv (.k (.c (.i 0)))⟩])
 (.seq (.reg [
    ⟨none, some 5, .mv (.t 1)⟩,
    ⟨none, some 6, .mv (.t 0)⟩,
    ⟨none, some 7, .len (.t 6)⟩,
    ⟨none, some 8, .bin .sub (.t 5) (.t 7)⟩,
    ⟨none, some 1, .mv (.t 8)⟩])
 (.seq (.seq (.reg [
     ⟨none, some 9, .mv (.t 1)⟩,
     ⟨none, some 10, .bin .lss (.t 9) (.k (.c (.i 0)))⟩])
  (.cond (.t 10)
   (.seq (.reg [
       ⟨none, some 4, .mv (.k (.c (.i (-1))))⟩])
    (.ret))
   (.skip)))
 (.seq (.reg [
    ⟨none, some 11, .mv (.t 1)⟩,
    ⟨none, some 4, .mv (.t 11)⟩])
 (.ret))))
theorem h_laws_szIntS : Has Try.prog n_laws_szIntS 12 c_laws_szIntS [.t 4] := ⟨by decide, Try.f122, _, Try.func122, rfl, rfl, by kernel_rfl, by kernel_rfl⟩

def c_laws_FnSettled : SC :=
 .seq (.reg [
    ⟨none, some 2, .mv (.k (.c (.b false)))⟩])
 (.seq (.seq (.reg [
     ⟨none, some 10, .mv (.t 0)⟩,
     ⟨none, some 11, .call n_laws_big [.t 10]⟩])
  (.cond (.t 11)
   (.seq (.reg [
       ⟨none, some 2, .mv (.k (.c (.b true)))⟩])
    (.ret))
   (.skip)))
 (.seq (.reg [
    ⟨none, some 12, .mv (.t 0)⟩,
    ⟨none, some 13, .call n_spec_DrawBook [.t 12]⟩,
    ⟨none, some 3, .mv (.t 13)⟩])
 (.seq (.reg [
    ⟨none, some 14, .mv (.t 3)⟩,
    ⟨none, some 15, .call n_impl_BalancesOf [.t 14]⟩,
    ⟨none, some 4, .mv (.t 15)⟩])
 (.seq (.reg [
    ⟨none, some 16, .mv (.t 4)⟩,
    ⟨none, some 17, .call n_impl_SettleUp [.t 16, .k (.c (.i 50))]⟩,
    ⟨none, some 5, .mv (.t 17)⟩])
 (.seq (.reg [
    ⟨none, some 19, .mv (.t 3)⟩,
    ⟨none, some 20, .mv (.t 5)⟩,
    ⟨none, some 21, .call n_impl_PostEntries [.t 19, .t 20]⟩,
    ⟨none, some 18, .mv (.t 21)⟩,
    ⟨none, some 22, .ext 0 (.t 18)⟩,
    ⟨none, some 23, .ext 1 (.t 18)⟩,
    ⟨none, some 6, .mv (.t 22)⟩,
    ⟨none, some 7, .mv (.t 23)⟩])
 (.seq (.reg [
    ⟨none, some 24, .mv (.t 6)⟩,
    ⟨none, some 25, .call n_impl_BalancesOf [.t 24]⟩,
    ⟨none, some 8, .mv (.t 25)⟩])
 (.seq (.seq (.reg [
     ⟨none, some 9, .mv (.k (.c (.i 0)))⟩])
  (.block 0 (.loop (.seq (.seq (.reg [
        ⟨none, some 26, .mv (.t 9)⟩,
        ⟨none, some 27, .mv (.t 8)⟩,
        ⟨none, some 28, .len (.t 27)⟩,
        ⟨none, some 29, .bin .lss (.t 26) (.t 28)⟩])
     (.cond (.t 29)
      (.skip)
      (.exit 0)))
    (.seq (.block 1 (.seq (.reg [
         ⟨none, some 32, .mv (.t 8)⟩,
         ⟨none, some 33, .mv (.t 9)⟩,
         ⟨none, some 34, .idx 1 (.t 32) (.t 33)⟩,
         ⟨none, some 35, .ld1 (.t 34)⟩,
         ⟨none, some 36, .bin .neq (.t 35) (.k (.c (.i 0)))⟩])
      (.cond (.t 36)
       (.seq (.reg [
           ⟨none, some 2, .mv (.k (.c (.b false)))⟩])
        (.ret))
       (.skip))))
    (.reg [
      ⟨none, some 30, .mv (.t 9)⟩,
      ⟨none, some 31, .bin .add (.t 30) (.k (.c (.i 1)))⟩,
      ⟨none, some 9, .mv (.t 31)⟩]))))))
 (.seq (.reg [
    ⟨none, some 37, .mv (.t 7)⟩,
    ⟨none, some 38, .mv (.t 37)⟩,
    ⟨some (38, true), some 39, .mv (.t 5)⟩,
    ⟨some (38, true), some 40, .len (.t 39)⟩,
    ⟨some (38, true), some 41, .bin .lss (.t 40) (.k (.c (.i 12)))⟩,
    ⟨none, some 42, .pick (.t 38) (.t 41) (.k (.c (.b false)))⟩,
    ⟨none, some 43, .mv (.t 42)⟩,
    ⟨some (43, true), some 44, .mv (.t 8)⟩,
    ⟨some (43, true), some 45, .len (.t 44)⟩,
    ⟨some (43, true), some 46, .bin .eql (.t 45) (.k (.c (.i 12)))⟩,
    ⟨none, some 47, .pick (.t 43) (.t 46) (.k (.c (.b false)))⟩,
    ⟨none, some 2, .mv (.t 47)⟩])
 (.ret)))))))))
theorem h_laws_FnSettled : Has Try.prog n_laws_FnSettled 48 c_laws_FnSettled [.t 2] := ⟨by decide, Try.f9, _, Try.func9, rfl, rfl, by kernel_rfl, by kernel_rfl⟩

def c_impl_BalancesOf : SC :=
 .seq (.reg [
    ⟨none, some 2, .mv (.k (.nil 1))⟩])
 (.seq (.seq (.reg [
     ⟨none, some 6, .mv (.t 0)⟩,
     ⟨none, some 7, .call n_impl_BookOk [.t 6]⟩,
     ⟨none, some 8, .not (.t 7)⟩])
  (.cond (.t 8)
   (.seq (.reg [
       ⟨none, some 2, .mv (.k (.nil 1))⟩])
    (.ret))
   (.skip)))
 (.seq (.reg [
    ⟨none, some 9, .mks 1 8 [.i 0] (.k (.c (.i 12))) (.k (.c (.i 12)))⟩,
    ⟨none, some 3, .mv (.t 9)⟩])
 (.seq (.seq (.reg [
     ⟨none, some 10, .mv (.t 0)⟩,
     ⟨none, some 11, .len (.t 10)⟩,
     ⟨none, some 12, .mv (.k (.c (.i 0)))⟩])
  (.block 0 (.loop (.seq (.reg [
       ⟨none, some 13, .bin .lss (.t 12) (.t 11)⟩])
    (.seq (.cond (.t 13)
      (.skip)
      (.exit 0))
    (.seq (.block 1 (.seq (.reg [
         ⟨none, some 14, .idx 5 (.t 10) (.t 12)⟩,
         ⟨none, some 15, .ldn 5 (.t 14)⟩,
         ⟨none, some 5, .alloc [.c (.i 0), .c (.i 0), .c (.i 0), .c (.i 0), .c (.i 0)]⟩,
         ⟨none, none, .stn 5 (.t 5) (.t 15)⟩])
      (.seq (.rege [
         ⟨0, false, [], ⟨none, some 16, .mv (.t 3)⟩⟩,
         ⟨0, false, [], ⟨none, some 17, .fld 0 (.t 5)⟩⟩,
         ⟨0, false, [], ⟨none, some 18, .ld1 (.t 17)⟩⟩,
         ⟨0, false, [], ⟨none, some 19, .idx 1 (.t 16) (.t 18)⟩⟩,
         ⟨0, false, [], ⟨none, some 20, .ld1 (.t 19)⟩⟩,
         ⟨0, false, [], ⟨none, some 21, .fld 2 (.t 5)⟩⟩,
         ⟨0, false, [], ⟨none, some 22, .ld1 (.t 21)⟩⟩,
         ⟨0, false, [], ⟨none, some 23, .bin .sub (.t 20) (.t 22)⟩⟩,
         ⟨0, false, [], ⟨none, some 24, .idx 1 (.t 16) (.t 18)⟩⟩,
         ⟨2, false, [], ⟨none, none, .st1 (.t 24) (.t 23)⟩⟩])
      (.rege [
        ⟨0, false, [], ⟨none, some 25, .mv (.t 3)⟩⟩,
        ⟨0, false, [], ⟨none, some 26, .fld 1 (.t 5)⟩⟩,
        ⟨0, false, [], ⟨none, some 27, .ld1 (.t 26)⟩⟩,
        ⟨0, false, [], ⟨none, some 28, .idx 1 (.t 25) (.t 27)⟩⟩,
        ⟨0, false, [], ⟨none, some 29, .ld1 (.t 28)⟩⟩,
        ⟨0, false, [], ⟨none, some 30, .fld 2 (.t 5)⟩⟩,
        ⟨0, false, [], ⟨none, some 31, .ld1 (.t 30)⟩⟩,
        ⟨0, false, [], ⟨none, some 32, .bin .add (.t 29) (.t 31)⟩⟩,
        ⟨0, false, [], ⟨none, some 33, .idx 1 (.t 25) (.t 27)⟩⟩,
        ⟨2, false, [], ⟨none, none, .st1 (.t 33) (.t 32)⟩⟩]))))
    (.reg [
      ⟨none, some 34, .bin .add (.t 12) (.k (.c (.i 1)))⟩,
      ⟨none, some 12, .mv (.t 34)⟩])))))))
 (.seq (.reg [
    ⟨none, some 35, .mv (.t 3)⟩,
    ⟨none, some 2, .mv (.t 35)⟩])
 (.ret)))))
theorem h_impl_BalancesOf : Has Try.prog n_impl_BalancesOf 36 c_impl_BalancesOf [.t 2] := ⟨by decide, Try.f43, _, Try.func43, rfl, rfl, by kernel_rfl, by kernel_rfl⟩

def c_laws_big : SC :=
 .seq (.reg [
    ⟨none, some 2, .mv (.k (.c (.b false)))⟩])
 (.seq (.reg [
    ⟨none, some 3, .mv (.t 0)⟩,
    ⟨none, some 4, .len (.t 3)⟩,
    ⟨none, some 5, .bin .gtr (.t 4) (.k (.c (.i 1048576)))⟩,
    ⟨none, some 2, .mv (.t 5)⟩])
 (.ret))
theorem h_laws_big : Has Try.prog n_laws_big 6 c_laws_big [.t 2] := ⟨by decide, Try.f48, _, Try.func48, rfl, rfl, by kernel_rfl, by kernel_rfl⟩

def c_spec_DrawBook : SC :=
 .seq (.reg [
    ⟨none, some 2, .mv (.k (.nil 5))⟩])
 (.seq (.reg [
    ⟨none, some 3, .mv (.t 0)⟩,
    ⟨none, some 4, .call n_spec_l01New [.t 3]⟩,
    ⟨none, some 5, .call n_spec_l08Book [.t 4]⟩,
    ⟨none, some 2, .mv (.t 5)⟩])
 (.ret))
theorem h_spec_DrawBook : Has Try.prog n_spec_DrawBook 6 c_spec_DrawBook [.t 2] := ⟨by decide, Try.f54, _, Try.func54, rfl, rfl, by kernel_rfl, by kernel_rfl⟩

def c_impl_SettleUp : SC :=
 .seq (.reg [
    ⟨none, some 4, .mv (.k (.nil 5))⟩])
 (.seq (.seq (.reg [
     ⟨none, some 15, .mv (.t 0)⟩,
     ⟨none, some 16, .len (.t 15)⟩,
     ⟨none, some 17, .bin .gtr (.t 16) (.k (.c (.i 12)))⟩,
     ⟨none, some 18, .mv (.t 17)⟩,
     ⟨some (18, false), some 19, .mv (.t 1)⟩,
     ⟨some (18, false), some 20, .call n_impl_inRange [.t 19, .k (.c (.i 0)), .k (.c (.i 1000000))]⟩,
     ⟨some (18, false), some 21, .not (.t 20)⟩,
     ⟨none, some 22, .pick (.t 18) (.k (.c (.b true))) (.t 21)⟩])
  (.cond (.t 22)
   (.seq (.reg [
       ⟨none, some 4, .mv (.k (.nil 5))⟩])
    (.ret))
   (.skip)))
 (.seq (.reg [
    ⟨none, some 5, .mv (.k (.c (.i 0)))⟩])
 (.seq (.seq (.reg [
     ⟨none, some 23, .mv (.t 0)⟩,
     ⟨none, some 24, .len (.t 23)⟩,
     ⟨none, some 25, .mv (.k (.c (.i 0)))⟩])
  (.block 0 (.loop (.seq (.reg [
       ⟨none, some 26, .bin .lss (.t 25) (.t 24)⟩])
    (.seq (.cond (.t 26)
      (.skip)
      (.exit 0))
    (.seq (.block 1 (.seq (.reg [
         ⟨none, some 27, .idx 1 (.t 23) (.t 25)⟩,
         ⟨none, some 28, .ld1 (.t 27)⟩,
         ⟨none, some 7, .mv (.t 28)⟩])
      (.seq (.seq (.reg [
          ⟨none, some 29, .mv (.t 7)⟩,
          ⟨none, some 30, .call n_impl_inRange [.t 29, .k (.c (.i (-1000000000))), .k (.c (.i 1000000000))]⟩,
          ⟨none, some 31, .not (.t 30)⟩])
       (.cond (.t 31)
        (.seq (.reg [
            ⟨none, some 4, .mv (.k (.nil 5))⟩])
         (.ret))
        (.skip)))
      (.reg [
        ⟨none, some 32, .mv (.t 5)⟩,
        ⟨none, some 33, .mv (.t 7)⟩,
        ⟨none, some 34, .bin .add (.t 32) (.t 33)⟩,
        ⟨none, some 5, .mv (.t 34)⟩]))))
    (.reg [
      ⟨none, some 35, .bin .add (.t 25) (.k (.c (.i 1)))⟩,
      ⟨none, some 25, .mv (.t 35)⟩])))))))
 (.seq (.seq (.reg [
     ⟨none, some 36, .mv (.t 5)⟩,
     ⟨none, some 37, .bin .neq (.t 36) (.k (.c (.i 0)))⟩])
  (.cond (.t 37)
   (.seq (.reg [
       ⟨none, some 4, .mv (.k (.nil 5))⟩])
    (.ret))
   (.skip)))
 (.seq (.reg [
    ⟨none, some 38, .mv (.t 0)⟩,
    ⟨none, some 39, .call n_slices_Clone___int_int_ [.t 38]⟩,
    ⟨none, some 8, .mv (.t 39)⟩])
 (.seq (.reg [
    ⟨none, some 9, .mv (.k (.nil 5))⟩])
 (.block 2 (.loop (.block 3 (.seq (.reg [
       ⟨none, some 10, .mv (.k (.c (.i 0)))⟩,
       ⟨none, some 11, .mv (.k (.c (.i 0)))⟩])
    (.seq (.seq (.reg [
        ⟨none, some 40, .mv (.t 8)⟩,
        ⟨none, some 41, .len (.t 40)⟩,
        ⟨none, some 42, .mv (.k (.c (.i 0)))⟩])
     (.block 4 (.loop (.seq (.reg [
          ⟨none, some 43, .bin .lss (.t 42) (.t 41)⟩])
       (.seq (.cond (.t 43)
         (.skip)
         (.exit 4))
       (.seq (.block 5 (.seq (.reg [
            ⟨none, some 44, .mv (.t 42)⟩,
            ⟨none, some 45, .idx 1 (.t 40) (.t 42)⟩,
            ⟨none, some 46, .ld1 (.t 45)⟩,
            ⟨none, some 12, .mv (.t 44)⟩,
            ⟨none, some 13, .mv (.t 46)⟩])
         (.seq (.seq (.reg [
             ⟨none, some 47, .mv (.t 13)⟩,
             ⟨none, some 48, .mv (.t 8)⟩,
             ⟨none, some 49, .mv (.t 10)⟩,
             ⟨none, some 50, .idx 1 (.t 48) (.t 49)⟩,
             ⟨none, some 51, .ld1 (.t 50)⟩,
             ⟨none, some 52, .bin .gtr (.t 47) (.t 51)⟩])
          (.cond (.t 52)
           (.reg [
              ⟨none, some 53, .mv (.t 12)⟩,
              ⟨none, some 10, .mv (.t 53)⟩])
           (.skip)))
         (.seq (.reg [
            ⟨none, some 54, .mv (.t 13)⟩,
            ⟨none, some 55, .mv (.t 8)⟩,
            ⟨none, some 56, .mv (.t 11)⟩,
            ⟨none, some 57, .idx 1 (.t 55) (.t 56)⟩,
            ⟨none, some 58, .ld1 (.t 57)⟩,
            ⟨none, some 59, .bin .lss (.t 54) (.t 58)⟩])
         (.cond (.t 59)
          (.reg [
             ⟨none, some 60, .mv (.t 12)⟩,
             ⟨none, some 11, .mv (.t 60)⟩])
          (.skip))))))
       (.reg [
         ⟨none, some 61, .bin .add (.t 42) (.k (.c (.i 1)))⟩,
         ⟨none, some 42, .mv (.t 61)⟩])))))))
    (.seq (.seq (.reg [
        ⟨none, some 62, .mv (.t 8)⟩,
        ⟨none, some 63, .len (.t 62)⟩,
        ⟨none, some 64, .bin .eql (.t 63) (.k (.c (.i 0)))⟩,
        ⟨none, some 65, .mv (.t 64)⟩,
        ⟨some (65, false), some 66, .mv (.t 8)⟩,
        ⟨some (65, false), some 67, .mv (.t 10)⟩,
        ⟨some (65, false), some 68, .idx 1 (.t 66) (.t 67)⟩,
        ⟨some (65, false), some 69, .ld1 (.t 68)⟩,
        ⟨some (65, false), some 70, .bin .eql (.t 69) (.k (.c (.i 0)))⟩,
        ⟨none, some 71, .pick (.t 65) (.k (.c (.b true))) (.t 70)⟩])
     (.cond (.t 71)
      (.seq (.reg [
          ⟨none, some 72, .mv (.t 9)⟩,
          ⟨none, some 4, .mv (.t 72)⟩])
       (.ret))
      (.skip)))
    (.seq (.regq [
       ⟨none, some 73, .mv (.t 8)⟩,
       ⟨none, some 74, .mv (.t 10)⟩,
       ⟨none, some 75, .idx 1 (.t 73) (.t 74)⟩,
       ⟨none, some 76, .ld1 (.t 75)⟩,
       ⟨none, some 77, .mv (.t 8)⟩,
       ⟨none, some 78, .mv (.t 11)⟩,
       ⟨none, some 79, .idx 1 (.t 77) (.t 78)⟩,
       ⟨none, some 80, .ld1 (.t 79)⟩,
       ⟨none, some 81, .neg (.t 80)⟩,
       ⟨none, some 82, .mn [.t 76, .t 81]⟩,
       ⟨none, some 14, .mv (.t 82)⟩])
    (.seq (.reg [
       ⟨none, some 83, .mv (.t 8)⟩,
       ⟨none, some 84, .mv (.t 10)⟩,
       ⟨none, some 85, .idx 1 (.t 83) (.t 84)⟩,
       ⟨none, some 86, .ld1 (.t 85)⟩,
       ⟨none, some 87, .mv (.t 14)⟩,
       ⟨none, some 88, .bin .sub (.t 86) (.t 87)⟩,
       ⟨none, some 89, .idx 1 (.t 83) (.t 84)⟩,
       ⟨none, none, .st1 (.t 89) (.t 88)⟩])
    (.seq (.reg [
       ⟨none, some 90, .mv (.t 8)⟩,
       ⟨none, some 91, .mv (.t 11)⟩,
       ⟨none, some 92, .idx 1 (.t 90) (.t 91)⟩,
       ⟨none, some 93, .ld1 (.t 92)⟩,
       ⟨none, some 94, .mv (.t 14)⟩,
       ⟨none, some 95, .bin .add (.t 93) (.t 94)⟩,
       ⟨none, some 96, .idx 1 (.t 90) (.t 91)⟩,
       ⟨none, none, .st1 (.t 96) (.t 95)⟩])
    (.reg [
      ⟨none, some 97, .mv (.t 9)⟩,
      ⟨none, some 98, .mv (.t 10)⟩,
      ⟨none, some 99, .mv (.t 11)⟩,
      ⟨none, some 100, .mv (.t 14)⟩,
      ⟨none, some 101, .mv (.t 1)⟩,
      ⟨none, some 102, .bld [.c (.i 0), .c (.i 0), .c (.i 0), .c (.i 0), .c (.i 0)] [(0, 1, .t 98), (1, 1, .t 99), (2, 1, .t 100), (3, 1, .t 101)]⟩,
      ⟨none, some 103, .bsl 5 [.t 102]⟩,
      ⟨none, some 104, .app 5 40 (.t 97) (.t 103)⟩,
      ⟨none, some 9, .mv (.t 104)⟩]))))))))))))))))
theorem h_impl_SettleUp : Has Try.prog n_impl_SettleUp 105 c_impl_SettleUp [.t 4] := ⟨by decide, Try.f55, _, Try.func55, rfl, rfl, by kernel_rfl, by kernel_rfl⟩

end Go.Proofs.Ytfmgadchjiplmaa
