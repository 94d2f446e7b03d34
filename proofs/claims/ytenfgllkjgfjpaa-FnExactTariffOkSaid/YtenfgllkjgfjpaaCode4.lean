/- Functions of this seat in the small language, written by a program (GenCode) out of the translation; each is held against the translation by the kernel. -/
import Derived.Test.YtenfgllkjgfjpaaNames
import Derived.KernelRfl
set_option linter.all false
namespace Go.Proofs.Ytenfgllkjgfjpaa
open Go.RowKit

def c_spec_WorkOk : SC :=
 .seq (.reg [
    ⟨none, some 1, .box 22 (.t 0)⟩,
    ⟨none, some 2, .mv (.k (.c (.b false)))⟩])
 (.seq (.seq (.reg [
     ⟨none, some 3, .mv (.k (.c (.i 0)))⟩])
  (.block 0 (.loop (.seq (.seq (.reg [
        ⟨none, some 4, .mv (.t 3)⟩,
        ⟨none, some 5, .fld 21 (.t 1)⟩,
        ⟨none, some 6, .ld1 (.t 5)⟩,
        ⟨none, some 7, .len (.t 6)⟩,
        ⟨none, some 8, .bin .lss (.t 4) (.t 7)⟩])
     (.cond (.t 8)
      (.skip)
      (.exit 0)))
    (.seq (.block 1 (.seq (.reg [
         ⟨none, some 11, .fld 21 (.t 1)⟩,
         ⟨none, some 12, .ld1 (.t 11)⟩,
         ⟨none, some 13, .mv (.t 3)⟩,
         ⟨none, some 14, .idx 4 (.t 12) (.t 13)⟩,
         ⟨none, some 15, .ldn 4 (.t 14)⟩,
         ⟨none, some 16, .call n_spec_CallOk [.t 15]⟩,
         ⟨none, some 17, .not (.t 16)⟩])
      (.cond (.t 17)
       (.seq (.reg [
           ⟨none, some 2, .mv (.k (.c (.b false)))⟩])
        (.ret))
       (.skip))))
    (.reg [
      ⟨none, some 9, .mv (.t 3)⟩,
      ⟨none, some 10, .bin .add (.t 9) (.k (.c (.i 1)))⟩,
      ⟨none, some 3, .mv (.t 10)⟩]))))))
 (.seq (.reg [
    ⟨none, some 18, .fld 21 (.t 1)⟩,
    ⟨none, some 19, .ld1 (.t 18)⟩,
    ⟨none, some 20, .len (.t 19)⟩,
    ⟨none, some 21, .bin .leq (.t 20) (.k (.c (.i 24)))⟩,
    ⟨none, some 22, .mv (.t 21)⟩,
    ⟨some (22, true), some 23, .fld 0 (.t 1)⟩,
    ⟨some (22, true), some 24, .ldn 10 (.t 23)⟩,
    ⟨some (22, true), some 25, .call n_spec_LockOk [.t 24]⟩,
    ⟨none, some 26, .pick (.t 22) (.t 25) (.k (.c (.b false)))⟩,
    ⟨none, some 27, .mv (.t 26)⟩,
    ⟨some (27, true), some 28, .fld 10 (.t 1)⟩,
    ⟨some (27, true), some 29, .ldn 5 (.t 28)⟩,
    ⟨some (27, true), some 30, .call n_spec_WeirOk [.t 29]⟩,
    ⟨none, some 31, .pick (.t 27) (.t 30) (.k (.c (.b false)))⟩,
    ⟨none, some 32, .mv (.t 31)⟩,
    ⟨some (32, true), some 33, .fld 15 (.t 1)⟩,
    ⟨some (32, true), some 34, .ldn 3 (.t 33)⟩,
    ⟨some (32, true), some 35, .call n_spec_RuleOk [.t 34]⟩,
    ⟨none, some 36, .pick (.t 32) (.t 35) (.k (.c (.b false)))⟩,
    ⟨none, some 37, .mv (.t 36)⟩,
    ⟨some (37, true), some 38, .fld 18 (.t 1)⟩,
    ⟨some (37, true), some 39, .ld1 (.t 38)⟩,
    ⟨some (37, true), some 40, .call n_spec_PausesOk [.t 39]⟩,
    ⟨none, some 41, .pick (.t 37) (.t 40) (.k (.c (.b false)))⟩,
    ⟨none, some 42, .mv (.t 41)⟩,
    ⟨some (42, true), some 43, .fld 19 (.t 1)⟩,
    ⟨some (42, true), some 44, .ldn 2 (.t 43)⟩,
    ⟨some (42, true), some 45, .call n_spec_TurnOk [.t 44]⟩,
    ⟨none, some 46, .pick (.t 42) (.t 45) (.k (.c (.b false)))⟩,
    ⟨none, some 2, .mv (.t 46)⟩])
 (.ret)))
theorem h_spec_WorkOk : Has Try.prog n_spec_WorkOk 47 c_spec_WorkOk [.t 2] := ⟨⟨Try.f102, _, Try.func102, rfl, rfl, by kernel_rfl, by kernel_rfl⟩⟩

def c_laws_toWork : SC :=
 .seq (.reg [
    ⟨none, some 1, .box 22 (.t 0)⟩,
    ⟨none, some 2, .alloc [.c (.i 0), .c (.i 0), .c (.i 0), .c (.i 0), .c (.i 0), .c (.i 0), .c (.i 0), .c (.i 0), .c (.i 0), .nil, .c (.i 0), .c (.i 0), .c (.i 0), .c (.i 0), .c (.i 0), .c (.i 0), .c (.i 0), .c (.i 0), .nil, .c (.b false), .c (.i 0), .nil]⟩])
 (.seq (.reg [
    ⟨none, some 3, .alloc [.c (.i 0), .c (.i 0), .c (.i 0), .c (.i 0), .c (.i 0), .c (.i 0), .c (.i 0), .c (.i 0), .c (.i 0), .nil, .c (.i 0), .c (.i 0), .c (.i 0), .c (.i 0), .c (.i 0), .c (.i 0), .c (.i 0), .c (.i 0), .nil, .c (.b false), .c (.i 0), .nil]⟩])
 (.seq (.reg [
    ⟨none, some 4, .fld 0 (.t 1)⟩,
    ⟨none, some 5, .ldn 10 (.t 4)⟩,
    ⟨none, some 6, .call n_laws_toLock [.t 5]⟩,
    ⟨none, some 7, .fld 0 (.t 3)⟩,
    ⟨none, none, .stn 10 (.t 7) (.t 6)⟩])
 (.seq (.reg [
    ⟨none, some 8, .fld 10 (.t 1)⟩,
    ⟨none, some 9, .ldn 5 (.t 8)⟩,
    ⟨none, some 10, .call n_laws_toWeir [.t 9]⟩,
    ⟨none, some 11, .fld 10 (.t 3)⟩,
    ⟨none, none, .stn 5 (.t 11) (.t 10)⟩])
 (.seq (.reg [
    ⟨none, some 12, .fld 15 (.t 1)⟩,
    ⟨none, some 13, .ldn 3 (.t 12)⟩,
    ⟨none, some 14, .call n_laws_toRule [.t 13]⟩,
    ⟨none, some 15, .fld 15 (.t 3)⟩,
    ⟨none, none, .stn 3 (.t 15) (.t 14)⟩])
 (.seq (.reg [
    ⟨none, some 16, .fld 18 (.t 1)⟩,
    ⟨none, some 17, .ld1 (.t 16)⟩,
    ⟨none, some 18, .call n_laws_toPauseS [.t 17]⟩,
    ⟨none, some 19, .fld 18 (.t 3)⟩,
    ⟨none, none, .st1 (.t 19) (.t 18)⟩])
 (.seq (.reg [
    ⟨none, some 20, .fld 19 (.t 1)⟩,
    ⟨none, some 21, .ldn 2 (.t 20)⟩,
    ⟨none, some 22, .call n_laws_toTurn [.t 21]⟩,
    ⟨none, some 23, .fld 19 (.t 3)⟩,
    ⟨none, none, .stn 2 (.t 23) (.t 22)⟩])
 (.seq (.reg [
    ⟨none, some 24, .fld 21 (.t 1)⟩,
    ⟨none, some 25, .ld1 (.t 24)⟩,
    ⟨none, some 26, .call n_laws_toCallS [.t 25]⟩,
    ⟨none, some 27, .fld 21 (.t 3)⟩,
    ⟨none, none, .st1 (.t 27) (.t 26)⟩])
 (.seq (.reg [
    ⟨none, some 28, .ldn 22 (.t 3)⟩,
    ⟨none, none, .stn 22 (.t 2) (.t 28)⟩])
 (.ret)))))))))
theorem h_laws_toWork : Has Try.prog n_laws_toWork 29 c_laws_toWork [.cl 2 22] := ⟨⟨Try.f103, _, Try.func103, rfl, rfl, by kernel_rfl, by kernel_rfl⟩⟩

def c_impl_WorkOk : SC :=
 .seq (.reg [
    ⟨none, some 1, .box 22 (.t 0)⟩,
    ⟨none, some 2, .mv (.k (.c (.b false)))⟩])
 (.seq (.seq (.reg [
     ⟨none, some 5, .fld 0 (.t 1)⟩,
     ⟨none, some 6, .ldn 10 (.t 5)⟩,
     ⟨none, some 7, .call n_impl_LockOk [.t 6]⟩,
     ⟨none, some 8, .not (.t 7)⟩,
     ⟨none, some 9, .mv (.t 8)⟩,
     ⟨some (9, false), some 10, .fld 10 (.t 1)⟩,
     ⟨some (9, false), some 11, .ldn 5 (.t 10)⟩,
     ⟨some (9, false), some 12, .call n_impl_WeirOk [.t 11]⟩,
     ⟨some (9, false), some 13, .not (.t 12)⟩,
     ⟨none, some 14, .pick (.t 9) (.k (.c (.b true))) (.t 13)⟩,
     ⟨none, some 15, .mv (.t 14)⟩,
     ⟨some (15, false), some 16, .fld 15 (.t 1)⟩,
     ⟨some (15, false), some 17, .ldn 3 (.t 16)⟩,
     ⟨some (15, false), some 18, .call n_impl_RuleOk [.t 17]⟩,
     ⟨some (15, false), some 19, .not (.t 18)⟩,
     ⟨none, some 20, .pick (.t 15) (.k (.c (.b true))) (.t 19)⟩,
     ⟨none, some 21, .mv (.t 20)⟩,
     ⟨some (21, false), some 22, .fld 18 (.t 1)⟩,
     ⟨some (21, false), some 23, .ld1 (.t 22)⟩,
     ⟨some (21, false), some 24, .call n_impl_PausesOk [.t 23]⟩,
     ⟨some (21, false), some 25, .not (.t 24)⟩,
     ⟨none, some 26, .pick (.t 21) (.k (.c (.b true))) (.t 25)⟩,
     ⟨none, some 27, .mv (.t 26)⟩,
     ⟨some (27, false), some 28, .fld 19 (.t 1)⟩,
     ⟨some (27, false), some 29, .ldn 2 (.t 28)⟩,
     ⟨some (27, false), some 30, .call n_impl_TurnOk [.t 29]⟩,
     ⟨some (27, false), some 31, .not (.t 30)⟩,
     ⟨none, some 32, .pick (.t 27) (.k (.c (.b true))) (.t 31)⟩])
  (.cond (.t 32)
   (.seq (.reg [
       ⟨none, some 2, .mv (.k (.c (.b false)))⟩])
    (.ret))
   (.skip)))
 (.seq (.seq (.reg [
     ⟨none, some 33, .fld 21 (.t 1)⟩,
     ⟨none, some 34, .ld1 (.t 33)⟩,
     ⟨none, some 35, .len (.t 34)⟩,
     ⟨none, some 36, .bin .gtr (.t 35) (.k (.c (.i 24)))⟩])
  (.cond (.t 36)
   (.seq (.reg [
       ⟨none, some 2, .mv (.k (.c (.b false)))⟩])
    (.ret))
   (.skip)))
 (.seq (.seq (.reg [
     ⟨none, some 37, .fld 21 (.t 1)⟩,
     ⟨none, some 38, .ld1 (.t 37)⟩,
     ⟨none, some 39, .len (.t 38)⟩,
     ⟨none, some 40, .mv (.k (.c (.i 0)))⟩])
  (.block 0 (.loop (.seq (.reg [
       ⟨none, some 41, .bin .lss (.t 40) (.t 39)⟩])
    (.seq (.cond (.t 41)
      (.skip)
      (.exit 0))
    (.seq (.block 1 (.seq (.reg [
         ⟨none, some 42, .idx 4 (.t 38) (.t 40)⟩,
         ⟨none, some 43, .ldn 4 (.t 42)⟩,
         ⟨none, some 4, .alloc [.c (.b false), .nil, .c (.i 0), .c (.i 0)]⟩,
         ⟨none, none, .stn 4 (.t 4) (.t 43)⟩])
      (.seq (.reg [
         ⟨none, some 44, .ldn 4 (.t 4)⟩,
         ⟨none, some 45, .call n_impl_CallOk [.t 44]⟩,
         ⟨none, some 46, .not (.t 45)⟩])
      (.cond (.t 46)
       (.seq (.reg [
           ⟨none, some 2, .mv (.k (.c (.b false)))⟩])
        (.ret))
       (.skip)))))
    (.reg [
      ⟨none, some 47, .bin .add (.t 40) (.k (.c (.i 1)))⟩,
      ⟨none, some 40, .mv (.t 47)⟩])))))))
 (.seq (.reg [
    ⟨none, some 2, .mv (.k (.c (.b true)))⟩])
 (.ret)))))
theorem h_impl_WorkOk : Has Try.prog n_impl_WorkOk 48 c_impl_WorkOk [.t 2] := ⟨⟨Try.f104, _, Try.func104, rfl, rfl, by kernel_rfl, by kernel_rfl⟩⟩

def c_laws_eqWork : SC :=
 .seq (.reg [
    ⟨none, some 2, .box 22 (.t 0)⟩,
    ⟨none, some 3, .box 22 (.t 1)⟩,
    ⟨none, some 4, .mv (.k (.c (.b false)))⟩])
 (.seq (.seq (.reg [
     ⟨none, some 5, .fld 0 (.t 2)⟩,
     ⟨none, some 6, .ldn 10 (.t 5)⟩,
     ⟨none, some 7, .fld 0 (.t 3)⟩,
     ⟨none, some 8, .ldn 10 (.t 7)⟩,
     ⟨none, some 9, .call n_laws_eqLock [.t 6, .t 8]⟩,
     ⟨none, some 10, .not (.t 9)⟩])
  (.cond (.t 10)
   (.seq (.reg [
       ⟨none, some 4, .mv (.k (.c (.b false)))⟩])
    (.ret))
   (.skip)))
 (.seq (.seq (.reg [
     ⟨none, some 11, .fld 10 (.t 2)⟩,
     ⟨none, some 12, .ldn 5 (.t 11)⟩,
     ⟨none, some 13, .fld 10 (.t 3)⟩,
     ⟨none, some 14, .ldn 5 (.t 13)⟩,
     ⟨none, some 15, .call n_laws_eqWeir [.t 12, .t 14]⟩,
     ⟨none, some 16, .not (.t 15)⟩])
  (.cond (.t 16)
   (.seq (.reg [
       ⟨none, some 4, .mv (.k (.c (.b false)))⟩])
    (.ret))
   (.skip)))
 (.seq (.seq (.reg [
     ⟨none, some 17, .fld 15 (.t 2)⟩,
     ⟨none, some 18, .ldn 3 (.t 17)⟩,
     ⟨none, some 19, .fld 15 (.t 3)⟩,
     ⟨none, some 20, .ldn 3 (.t 19)⟩,
     ⟨none, some 21, .call n_laws_eqRule [.t 18, .t 20]⟩,
     ⟨none, some 22, .not (.t 21)⟩])
  (.cond (.t 22)
   (.seq (.reg [
       ⟨none, some 4, .mv (.k (.c (.b false)))⟩])
    (.ret))
   (.skip)))
 (.seq (.seq (.reg [
     ⟨none, some 23, .fld 18 (.t 2)⟩,
     ⟨none, some 24, .ld1 (.t 23)⟩,
     ⟨none, some 25, .fld 18 (.t 3)⟩,
     ⟨none, some 26, .ld1 (.t 25)⟩,
     ⟨none, some 27, .call n_laws_eqPauseS [.t 24, .t 26]⟩,
     ⟨none, some 28, .not (.t 27)⟩])
  (.cond (.t 28)
   (.seq (.reg [
       ⟨none, some 4, .mv (.k (.c (.b false)))⟩])
    (.ret))
   (.skip)))
 (.seq (.seq (.reg [
     ⟨none, some 29, .fld 19 (.t 2)⟩,
     ⟨none, some 30, .ldn 2 (.t 29)⟩,
     ⟨none, some 31, .fld 19 (.t 3)⟩,
     ⟨none, some 32, .ldn 2 (.t 31)⟩,
     ⟨none, some 33, .call n_laws_eqTurn [.t 30, .t 32]⟩,
     ⟨none, some 34, .not (.t 33)⟩])
  (.cond (.t 34)
   (.seq (.reg [
       ⟨none, some 4, .mv (.k (.c (.b false)))⟩])
    (.ret))
   (.skip)))
 (.seq (.seq (.reg [
     ⟨none, some 35, .fld 21 (.t 2)⟩,
     ⟨none, some 36, .ld1 (.t 35)⟩,
     ⟨none, some 37, .fld 21 (.t 3)⟩,
     ⟨none, some 38, .ld1 (.t 37)⟩,
     ⟨none, some 39, .call n_laws_eqCallS [.t 36, .t 38]⟩,
     ⟨none, some 40, .not (.t 39)⟩])
  (.cond (.t 40)
   (.seq (.reg [
       ⟨none, some 4, .mv (.k (.c (.b false)))⟩])
    (.ret))
   (.skip)))
 (.seq (.reg [
    ⟨none, some 4, .mv (.k (.c (.b true)))⟩])
 (.ret))))))))
theorem h_laws_eqWork : Has Try.prog n_laws_eqWork 41 c_laws_eqWork [.t 4] := ⟨⟨Try.f105, _, Try.func105, rfl, rfl, by kernel_rfl, by kernel_rfl⟩⟩

def c_laws_szMoverS : SC :=
 .seq (.reg [
    ⟨none, some 4, .mv (.k (.c (.i 0)))⟩])
 (.seq (.reg [
    ⟨none, some 6, .mv (.t 1)⟩,
    ⟨none, some 7, .mv (.t 0)⟩,
    ⟨none, some 8, .len (.t 7)⟩,
    ⟨none, some 9, .bin .sub (.t 6) (.t 8)⟩,
    ⟨none, some 1, .mv (.t 9)⟩])
 (.seq (.seq (.reg [
     ⟨none, some 10, .mv (.t 1)⟩,
     ⟨none, some 11, .bin .lss (.t 10) (.k (.c (.i 0)))⟩])
  (.cond (.t 11)
   (.seq (.reg [
       ⟨none, some 4, .mv (.k (.c (.i (-1))))⟩])
    (.ret))
   (.skip)))
 (.seq (.seq (.reg [
     ⟨none, some 5, .mv (.k (.c (.i 0)))⟩])
  (.block 0 (.loop (.seq (.seq (.reg [
        ⟨none, some 12, .mv (.t 5)⟩,
        ⟨none, some 13, .mv (.t 0)⟩,
        ⟨none, some 14, .len (.t 13)⟩,
        ⟨none, some 15, .bin .lss (.t 12) (.t 14)⟩])
     (.cond (.t 15)
      (.skip)
      (.exit 0)))
    (.seq (.block 1 (.seq (.reg [
         ⟨none, some 18, .mv (.t 0)⟩,
         ⟨none, some 19, .mv (.t 5)⟩,
         ⟨none, some 20, .idx 3 (.t 18) (.t 19)⟩,
         ⟨none, some 21, .ldn 3 (.t 20)⟩,
         ⟨none, some 22, .mv (.t 1)⟩,
         ⟨none, some 23, .call n_laws_szMover [.t 21, .t 22]⟩,
         ⟨none, some 1, .mv (.t 23)⟩])
      (.seq (.reg [
         ⟨none, some 24, .mv (.t 1)⟩,
         ⟨none, some 25, .bin .lss (.t 24) (.k (.c (.i 0)))⟩])
      (.cond (.t 25)
       (.seq (.reg [
           ⟨none, some 4, .mv (.k (.c (.i (-1))))⟩])
        (.ret))
       (.skip)))))
    (.reg [
      ⟨none, some 16, .mv (.t 5)⟩,
      ⟨none, some 17, .bin .add (.t 16) (.k (.c (.i 1)))⟩,
      ⟨none, some 5, .mv (.t 17)⟩]))))))
 (.seq (.reg [
    ⟨none, some 26, .mv (.t 1)⟩,
    ⟨none, some 4, .mv (.t 26)⟩])
 (.ret)))))
theorem h_laws_szMoverS : Has Try.prog n_laws_szMoverS 27 c_laws_szMoverS [.t 4] := ⟨⟨Try.f106, _, Try.func106, rfl, rfl, by kernel_rfl, by kernel_rfl⟩⟩

def c_spec_GroundedOf : SC :=
 .seq (.reg [
    ⟨none, some 4, .box 2 (.t 1)⟩,
    ⟨none, some 5, .box 3 (.t 2)⟩,
    ⟨none, some 6, .mv (.k (.nil))⟩])
 (.seq (.reg [
    ⟨none, some 9, .bsl 1 []⟩,
    ⟨none, some 7, .mv (.t 9)⟩])
 (.seq (.seq (.reg [
     ⟨none, some 10, .ldn 2 (.t 4)⟩,
     ⟨none, some 11, .call n_spec_WayOk [.t 10]⟩,
     ⟨none, some 12, .not (.t 11)⟩,
     ⟨none, some 13, .mv (.t 12)⟩,
     ⟨some (13, false), some 14, .ldn 3 (.t 5)⟩,
     ⟨some (13, false), some 15, .call n_spec_ReachOk [.t 14]⟩,
     ⟨some (13, false), some 16, .not (.t 15)⟩,
     ⟨none, some 17, .pick (.t 13) (.k (.c (.b true))) (.t 16)⟩])
  (.cond (.t 17)
   (.seq (.reg [
       ⟨none, some 18, .mv (.t 7)⟩,
       ⟨none, some 6, .mv (.t 18)⟩])
    (.ret))
   (.skip)))
 (.seq (.seq (.reg [
     ⟨none, some 8, .mv (.k (.c (.i 0)))⟩])
  (.block 0 (.loop (.seq (.seq (.reg [
        ⟨none, some 19, .mv (.t 8)⟩,
        ⟨none, some 20, .mv (.t 0)⟩,
        ⟨none, some 21, .len (.t 20)⟩,
        ⟨none, some 22, .bin .lss (.t 19) (.t 21)⟩])
     (.cond (.t 22)
      (.skip)
      (.exit 0)))
    (.seq (.block 1 (.seq (.regq [
         ⟨none, some 25, .mv (.t 0)⟩,
         ⟨none, some 26, .mv (.t 8)⟩,
         ⟨none, some 27, .idx 3 (.t 25) (.t 26)⟩,
         ⟨none, some 28, .ldn 3 (.t 27)⟩,
         ⟨none, some 29, .ldn 2 (.t 4)⟩,
         ⟨none, some 30, .call n_spec_MoverOk [.t 28, .t 29]⟩,
         ⟨none, some 31, .mv (.t 30)⟩,
         ⟨some (31, true), some 32, .mv (.t 0)⟩,
         ⟨some (31, true), some 33, .mv (.t 8)⟩,
         ⟨some (31, true), some 34, .idx 3 (.t 32) (.t 33)⟩,
         ⟨some (31, true), some 35, .fld 0 (.t 34)⟩,
         ⟨some (31, true), some 36, .ldn 2 (.t 35)⟩,
         ⟨some (31, true), some 37, .ldn 2 (.t 4)⟩,
         ⟨some (31, true), some 38, .ldn 3 (.t 5)⟩,
         ⟨some (31, true), some 39, .call n_spec_DepthIn [.t 37, .t 38]⟩,
         ⟨some (31, true), some 40, .call n_spec_PaceOf [.t 36, .t 39]⟩,
         ⟨some (31, true), some 41, .bin .eql (.t 40) (.k (.c (.i 0)))⟩,
         ⟨none, some 42, .pick (.t 31) (.t 41) (.k (.c (.b false)))⟩])
      (.cond (.t 42)
       (.reg [
          ⟨none, some 43, .mv (.t 7)⟩,
          ⟨none, some 44, .mv (.t 0)⟩,
          ⟨none, some 45, .mv (.t 8)⟩,
          ⟨none, some 46, .idx 3 (.t 44) (.t 45)⟩,
          ⟨none, some 47, .fld 0 (.t 46)⟩,
          ⟨none, some 48, .ldn 2 (.t 47)⟩,
          ⟨none, some 49, .call n_spec_IdsOf [.t 48]⟩,
          ⟨none, some 50, .idx 1 (.t 49) (.k (.c (.i 0)))⟩,
          ⟨none, some 51, .ld1 (.t 50)⟩,
          ⟨none, some 52, .bsl 1 [.t 51]⟩,
          ⟨none, some 53, .app 1 8 (.t 43) (.t 52)⟩,
          ⟨none, some 7, .mv (.t 53)⟩])
       (.skip))))
    (.reg [
      ⟨none, some 23, .mv (.t 8)⟩,
      ⟨none, some 24, .bin .add (.t 23) (.k (.c (.i 1)))⟩,
      ⟨none, some 8, .mv (.t 24)⟩]))))))
 (.seq (.reg [
    ⟨none, some 54, .mv (.t 7)⟩,
    ⟨none, some 6, .mv (.t 54)⟩])
 (.ret)))))
theorem h_spec_GroundedOf : Has Try.prog n_spec_GroundedOf 55 c_spec_GroundedOf [.t 6] := ⟨⟨Try.f107, _, Try.func107, rfl, rfl, by kernel_rfl, by kernel_rfl⟩⟩

def c_laws_toMoverS : SC :=
 .seq (.reg [
    ⟨none, some 2, .mv (.k (.nil))⟩])
 (.seq (.reg [
    ⟨none, some 5, .mv (.t 0)⟩,
    ⟨none, some 6, .len (.t 5)⟩,
    ⟨none, some 7, .mks 3 40 [.b false, .sl 1 [], .i 0] (.t 6) (.t 6)⟩,
    ⟨none, some 3, .mv (.t 7)⟩])
 (.seq (.seq (.reg [
     ⟨none, some 4, .mv (.k (.c (.i 0)))⟩])
  (.block 0 (.loop (.seq (.seq (.reg [
        ⟨none, some 8, .mv (.t 4)⟩,
        ⟨none, some 9, .mv (.t 0)⟩,
        ⟨none, some 10, .len (.t 9)⟩,
        ⟨none, some 11, .bin .lss (.t 8) (.t 10)⟩])
     (.cond (.t 11)
      (.skip)
      (.exit 0)))
    (.seq (.block 1 (.reg [
        ⟨none, some 14, .mv (.t 3)⟩,
        ⟨none, some 15, .mv (.t 4)⟩,
        ⟨none, some 16, .mv (.t 0)⟩,
        ⟨none, some 17, .mv (.t 4)⟩,
        ⟨none, some 18, .idx 3 (.t 16) (.t 17)⟩,
        ⟨none, some 19, .ldn 3 (.t 18)⟩,
        ⟨none, some 20, .call n_laws_toMover [.t 19]⟩,
        ⟨none, some 21, .idx 3 (.t 14) (.t 15)⟩,
        ⟨none, none, .stn 3 (.t 21) (.t 20)⟩]))
    (.reg [
      ⟨none, some 12, .mv (.t 4)⟩,
      ⟨none, some 13, .bin .add (.t 12) (.k (.c (.i 1)))⟩,
      ⟨none, some 4, .mv (.t 13)⟩]))))))
 (.seq (.reg [
    ⟨none, some 22, .mv (.t 3)⟩,
    ⟨none, some 2, .mv (.t 22)⟩])
 (.ret))))
theorem h_laws_toMoverS : Has Try.prog n_laws_toMoverS 23 c_laws_toMoverS [.t 2] := ⟨⟨Try.f108, _, Try.func108, rfl, rfl, by kernel_rfl, by kernel_rfl⟩⟩

def c_laws_eqMoverS : SC :=
 .seq (.reg [
    ⟨none, some 4, .mv (.k (.c (.b false)))⟩])
 (.seq (.seq (.reg [
     ⟨none, some 6, .mv (.t 0)⟩,
     ⟨none, some 7, .len (.t 6)⟩,
     ⟨none, some 8, .mv (.t 1)⟩,
     ⟨none, some 9, .len (.t 8)⟩,
     ⟨none, some 10, .bin .neq (.t 7) (.t 9)⟩])
  (.cond (.t 10)
   (.seq (.reg [
       ⟨none, some 4, .mv (.k (.c (.b false)))⟩])
    (.ret))
   (.skip)))
 (.seq (.seq (.reg [
     ⟨none, some 5, .mv (.k (.c (.i 0)))⟩])
  (.block 0 (.loop (.seq (.seq (.reg [
        ⟨none, some 11, .mv (.t 5)⟩,
        ⟨none, some 12, .mv (.t 0)⟩,
        ⟨none, some 13, .len (.t 12)⟩,
        ⟨none, some 14, .bin .lss (.t 11) (.t 13)⟩])
     (.cond (.t 14)
      (.skip)
      (.exit 0)))
    (.seq (.block 1 (.seq (.regq [
         ⟨none, some 17, .mv (.t 0)⟩,
         ⟨none, some 18, .mv (.t 5)⟩,
         ⟨none, some 19, .idx 3 (.t 17) (.t 18)⟩,
         ⟨none, some 20, .ldn 3 (.t 19)⟩,
         ⟨none, some 21, .mv (.t 1)⟩,
         ⟨none, some 22, .mv (.t 5)⟩,
         ⟨none, some 23, .idx 3 (.t 21) (.t 22)⟩,
         ⟨none, some 24, .ldn 3 (.t 23)⟩,
         ⟨none, some 25, .call n_laws_eqMover [.t 20, .t 24]⟩,
         ⟨none, some 26, .not (.t 25)⟩])
      (.cond (.t 26)
       (.seq (.reg [
           ⟨none, some 4, .mv (.k (.c (.b false)))⟩])
        (.ret))
       (.skip))))
    (.reg [
      ⟨none, some 15, .mv (.t 5)⟩,
      ⟨none, some 16, .bin .add (.t 15) (.k (.c (.i 1)))⟩,
      ⟨none, some 5, .mv (.t 16)⟩]))))))
 (.seq (.reg [
    ⟨none, some 4, .mv (.k (.c (.b true)))⟩])
 (.ret))))
theorem h_laws_eqMoverS : Has Try.prog n_laws_eqMoverS 27 c_laws_eqMoverS [.t 4] := ⟨⟨Try.f109, _, Try.func109, rfl, rfl, by kernel_rfl, by kernel_rfl⟩⟩

def c_laws_markMoverS : SC :=
 .seq (.reg [
    ⟨none, some 4, .mv (.k (.c (.i 0)))⟩])
 (.seq (.seq (.reg [
     ⟨none, some 5, .mv (.k (.c (.i 0)))⟩])
  (.block 0 (.loop (.seq (.seq (.reg [
        ⟨none, some 6, .mv (.t 5)⟩,
        ⟨none, some 7, .mv (.t 0)⟩,
        ⟨none, some 8, .len (.t 7)⟩,
        ⟨none, some 9, .bin .lss (.t 6) (.t 8)⟩])
     (.cond (.t 9)
      (.skip)
      (.exit 0)))
    (.seq (.block 1 (.seq (.reg [
         ⟨none, some 12, .mv (.t 0)⟩,
         ⟨none, some 13, .mv (.t 5)⟩,
         ⟨none, some 14, .mv (.t 1)⟩,
         ⟨none, some 15, .bin .rem (.t 14) (.k (.c (.i 3)))⟩,
         ⟨none, some 16, .bin .eql (.t 15) (.k (.c (.i 0)))⟩,
         ⟨none, some 17, .idx 3 (.t 12) (.t 13)⟩,
         ⟨none, some 18, .fld 0 (.t 17)⟩,
         ⟨none, some 19, .fld 0 (.t 18)⟩,
         ⟨none, none, .st1 (.t 19) (.t 16)⟩])
      (.seq (.reg [
         ⟨none, some 20, .mv (.t 1)⟩,
         ⟨none, some 21, .bin .add (.t 20) (.k (.c (.i 1)))⟩,
         ⟨none, some 1, .mv (.t 21)⟩])
      (.seq (.reg [
         ⟨none, some 22, .mv (.t 0)⟩,
         ⟨none, some 23, .mv (.t 5)⟩,
         ⟨none, some 24, .idx 3 (.t 22) (.t 23)⟩,
         ⟨none, some 25, .fld 0 (.t 24)⟩,
         ⟨none, some 26, .fld 1 (.t 25)⟩,
         ⟨none, some 27, .ld1 (.t 26)⟩,
         ⟨none, some 28, .mv (.t 1)⟩,
         ⟨none, some 29, .call n_laws_markBoatSS [.t 27, .t 28]⟩,
         ⟨none, some 1, .mv (.t 29)⟩])
      (.seq (.reg [
         ⟨none, some 30, .mv (.t 0)⟩,
         ⟨none, some 31, .mv (.t 5)⟩,
         ⟨none, some 32, .mv (.t 1)⟩,
         ⟨none, some 33, .idx 3 (.t 30) (.t 31)⟩,
         ⟨none, some 34, .fld 2 (.t 33)⟩,
         ⟨none, none, .st1 (.t 34) (.t 32)⟩])
      (.reg [
        ⟨none, some 35, .mv (.t 1)⟩,
        ⟨none, some 36, .bin .add (.t 35) (.k (.c (.i 1)))⟩,
        ⟨none, some 1, .mv (.t 36)⟩]))))))
    (.reg [
      ⟨none, some 10, .mv (.t 5)⟩,
      ⟨none, some 11, .bin .add (.t 10) (.k (.c (.i 1)))⟩,
      ⟨none, some 5, .mv (.t 11)⟩]))))))
 (.seq (.reg [
    ⟨none, some 37, .mv (.t 1)⟩,
    ⟨none, some 4, .mv (.t 37)⟩])
 (.ret)))
theorem h_laws_markMoverS : Has Try.prog n_laws_markMoverS 38 c_laws_markMoverS [.t 4] := ⟨⟨Try.f110, _, Try.func110, rfl, rfl, by kernel_rfl, by kernel_rfl⟩⟩

def c_laws_markReach : SC :=
 .seq (.reg [
    ⟨none, some 2, .box 3 (.t 0)⟩,
    ⟨none, some 4, .mv (.k (.c (.i 0)))⟩])
 (.seq (.reg [
    ⟨none, some 5, .fld 0 (.t 2)⟩,
    ⟨none, some 6, .ld1 (.t 5)⟩,
    ⟨none, some 7, .mv (.t 1)⟩,
    ⟨none, some 8, .call n_laws_markPointS [.t 6, .t 7]⟩,
    ⟨none, some 1, .mv (.t 8)⟩])
 (.seq (.reg [
    ⟨none, some 9, .fld 2 (.t 2)⟩,
    ⟨none, some 10, .ld1 (.t 9)⟩,
    ⟨none, some 11, .mv (.t 1)⟩,
    ⟨none, some 12, .call n_laws_markIntS [.t 10, .t 11]⟩,
    ⟨none, some 1, .mv (.t 12)⟩])
 (.seq (.reg [
    ⟨none, some 13, .mv (.t 1)⟩,
    ⟨none, some 4, .mv (.t 13)⟩])
 (.ret))))
theorem h_laws_markReach : Has Try.prog n_laws_markReach 14 c_laws_markReach [.t 4] := ⟨⟨Try.f111, _, Try.func111, rfl, rfl, by kernel_rfl, by kernel_rfl⟩⟩

def c_spec_MoveOne : SC :=
 .seq (.reg [
    ⟨none, some 3, .box 3 (.t 0)⟩,
    ⟨none, some 4, .box 2 (.t 1)⟩,
    ⟨none, some 5, .box 3 (.t 2)⟩,
    ⟨none, some 6, .alloc [.c (.b false), .nil, .c (.i 0)]⟩])
 (.seq (.reg [
    ⟨none, some 9, .ldn 3 (.t 3)⟩,
    ⟨none, some 10, .call n_spec_l07Copy [.t 9]⟩,
    ⟨none, some 7, .alloc [.c (.b false), .nil, .c (.i 0)]⟩,
    ⟨none, none, .stn 3 (.t 7) (.t 10)⟩])
 (.seq (.seq (.reg [
     ⟨none, some 11, .ldn 3 (.t 3)⟩,
     ⟨none, some 12, .ldn 2 (.t 4)⟩,
     ⟨none, some 13, .call n_spec_MoverOk [.t 11, .t 12]⟩,
     ⟨none, some 14, .not (.t 13)⟩,
     ⟨none, some 15, .mv (.t 14)⟩,
     ⟨some (15, false), some 16, .ldn 3 (.t 5)⟩,
     ⟨some (15, false), some 17, .call n_spec_ReachOk [.t 16]⟩,
     ⟨some (15, false), some 18, .not (.t 17)⟩,
     ⟨none, some 19, .pick (.t 15) (.k (.c (.b true))) (.t 18)⟩])
  (.cond (.t 19)
   (.seq (.reg [
       ⟨none, some 20, .ldn 3 (.t 7)⟩,
       ⟨none, none, .stn 3 (.t 6) (.t 20)⟩])
    (.ret))
   (.skip)))
 (.seq (.regq [
    ⟨none, some 21, .fld 0 (.t 3)⟩,
    ⟨none, some 22, .ldn 2 (.t 21)⟩,
    ⟨none, some 23, .ldn 2 (.t 4)⟩,
    ⟨none, some 24, .ldn 3 (.t 5)⟩,
    ⟨none, some 25, .call n_spec_DepthIn [.t 23, .t 24]⟩,
    ⟨none, some 26, .call n_spec_PaceOf [.t 22, .t 25]⟩,
    ⟨none, some 8, .mv (.t 26)⟩])
 (.seq (.seq (.reg [
     ⟨none, some 27, .fld 0 (.t 3)⟩,
     ⟨none, some 28, .fld 0 (.t 27)⟩,
     ⟨none, some 29, .ld1 (.t 28)⟩])
  (.cond (.t 29)
   (.reg [
      ⟨none, some 30, .fld 2 (.t 3)⟩,
      ⟨none, some 31, .ld1 (.t 30)⟩,
      ⟨none, some 32, .mv (.t 8)⟩,
      ⟨none, some 33, .bin .sub (.t 31) (.t 32)⟩,
      ⟨none, some 34, .mx [.k (.c (.i 0)), .t 33]⟩,
      ⟨none, some 35, .fld 2 (.t 7)⟩,
      ⟨none, none, .st1 (.t 35) (.t 34)⟩])
   (.reg [
      ⟨none, some 36, .fld 0 (.t 4)⟩,
      ⟨none, some 37, .ld1 (.t 36)⟩,
      ⟨none, some 38, .fld 2 (.t 3)⟩,
      ⟨none, some 39, .ld1 (.t 38)⟩,
      ⟨none, some 40, .mv (.t 8)⟩,
      ⟨none, some 41, .bin .add (.t 39) (.t 40)⟩,
      ⟨none, some 42, .mn [.t 37, .t 41]⟩,
      ⟨none, some 43, .fld 2 (.t 7)⟩,
      ⟨none, none, .st1 (.t 43) (.t 42)⟩])))
 (.seq (.reg [
    ⟨none, some 44, .ldn 3 (.t 7)⟩,
    ⟨none, none, .stn 3 (.t 6) (.t 44)⟩])
 (.ret))))))
theorem h_spec_MoveOne : Has Try.prog n_spec_MoveOne 45 c_spec_MoveOne [.cl 6 3] := ⟨⟨Try.f112, _, Try.func112, rfl, rfl, by kernel_rfl, by kernel_rfl⟩⟩

def c_laws_markMover : SC :=
 .seq (.reg [
    ⟨none, some 2, .box 3 (.t 0)⟩,
    ⟨none, some 4, .mv (.k (.c (.i 0)))⟩])
 (.seq (.reg [
    ⟨none, some 5, .fld 0 (.t 2)⟩,
    ⟨none, some 6, .ldn 2 (.t 5)⟩,
    ⟨none, some 7, .mv (.t 1)⟩,
    ⟨none, some 8, .call n_laws_markTrain [.t 6, .t 7]⟩,
    ⟨none, some 1, .mv (.t 8)⟩])
 (.seq (.reg [
    ⟨none, some 9, .mv (.t 1)⟩,
    ⟨none, some 4, .mv (.t 9)⟩])
 (.ret)))
theorem h_laws_markMover : Has Try.prog n_laws_markMover 10 c_laws_markMover [.t 4] := ⟨⟨Try.f113, _, Try.func113, rfl, rfl, by kernel_rfl, by kernel_rfl⟩⟩

def c_laws_heldMover : SC :=
 .seq (.reg [
    ⟨none, some 2, .box 3 (.t 0)⟩,
    ⟨none, some 4, .mv (.k (.c (.i 0)))⟩])
 (.seq (.reg [
    ⟨none, some 5, .fld 0 (.t 2)⟩,
    ⟨none, some 6, .ldn 2 (.t 5)⟩,
    ⟨none, some 7, .mv (.t 1)⟩,
    ⟨none, some 8, .call n_laws_heldTrain [.t 6, .t 7]⟩,
    ⟨none, some 1, .mv (.t 8)⟩])
 (.seq (.seq (.reg [
     ⟨none, some 9, .mv (.t 1)⟩,
     ⟨none, some 10, .bin .lss (.t 9) (.k (.c (.i 0)))⟩])
  (.cond (.t 10)
   (.seq (.reg [
       ⟨none, some 4, .mv (.k (.c (.i (-1))))⟩])
    (.ret))
   (.skip)))
 (.seq (.reg [
    ⟨none, some 11, .mv (.t 1)⟩,
    ⟨none, some 4, .mv (.t 11)⟩])
 (.ret))))
theorem h_laws_heldMover : Has Try.prog n_laws_heldMover 12 c_laws_heldMover [.t 4] := ⟨⟨Try.f114, _, Try.func114, rfl, rfl, by kernel_rfl, by kernel_rfl⟩⟩



def c_laws_markTariff : SC :=
 .seq (.reg [
    ⟨none, some 2, .box 4 (.t 0)⟩,
    ⟨none, some 4, .mv (.k (.c (.i 0)))⟩])
 (.seq (.reg [
    ⟨none, some 5, .fld 2 (.t 2)⟩,
    ⟨none, some 6, .ld1 (.t 5)⟩,
    ⟨none, some 7, .mv (.t 1)⟩,
    ⟨none, some 8, .call n_laws_markIntS [.t 6, .t 7]⟩,
    ⟨none, some 1, .mv (.t 8)⟩])
 (.seq (.reg [
    ⟨none, some 9, .fld 3 (.t 2)⟩,
    ⟨none, some 10, .ld1 (.t 9)⟩,
    ⟨none, some 11, .mv (.t 1)⟩,
    ⟨none, some 12, .call n_laws_markIntS [.t 10, .t 11]⟩,
    ⟨none, some 1, .mv (.t 12)⟩])
 (.seq (.reg [
    ⟨none, some 13, .mv (.t 1)⟩,
    ⟨none, some 4, .mv (.t 13)⟩])
 (.ret))))
theorem h_laws_markTariff : Has Try.prog n_laws_markTariff 14 c_laws_markTariff [.t 4] := ⟨⟨Try.f116, _, Try.func116, rfl, rfl, by kernel_rfl, by kernel_rfl⟩⟩

def c_laws_markTrain : SC :=
 .seq (.reg [
    ⟨none, some 2, .box 2 (.t 0)⟩,
    ⟨none, some 4, .mv (.k (.c (.i 0)))⟩])
 (.seq (.reg [
    ⟨none, some 5, .fld 1 (.t 2)⟩,
    ⟨none, some 6, .ld1 (.t 5)⟩,
    ⟨none, some 7, .mv (.t 1)⟩,
    ⟨none, some 8, .call n_laws_markBoatSS [.t 6, .t 7]⟩,
    ⟨none, some 1, .mv (.t 8)⟩])
 (.seq (.reg [
    ⟨none, some 9, .mv (.t 1)⟩,
    ⟨none, some 4, .mv (.t 9)⟩])
 (.ret)))
theorem h_laws_markTrain : Has Try.prog n_laws_markTrain 10 c_laws_markTrain [.t 4] := ⟨⟨Try.f117, _, Try.func117, rfl, rfl, by kernel_rfl, by kernel_rfl⟩⟩

def c_spec_l01In : SC :=
 .seq (.reg [
    ⟨none, some 6, .mv (.k (.c (.b false)))⟩])
 (.seq (.reg [
    ⟨none, some 7, .mv (.t 0)⟩,
    ⟨none, some 8, .mv (.t 1)⟩,
    ⟨none, some 9, .bin .geq (.t 7) (.t 8)⟩,
    ⟨none, some 10, .mv (.t 9)⟩,
    ⟨some (10, true), some 11, .mv (.t 0)⟩,
    ⟨some (10, true), some 12, .mv (.t 2)⟩,
    ⟨some (10, true), some 13, .bin .leq (.t 11) (.t 12)⟩,
    ⟨none, some 14, .pick (.t 10) (.t 13) (.k (.c (.b false)))⟩,
    ⟨none, some 6, .mv (.t 14)⟩])
 (.ret))
theorem h_spec_l01In : Has Try.prog n_spec_l01In 15 c_spec_l01In [.t 6] := ⟨⟨Try.f118, _, Try.func118, rfl, rfl, by kernel_rfl, by kernel_rfl⟩⟩

def c_spec_l03Level : SC :=
 .seq (.reg [
    ⟨none, some 2, .mv (.k (.c (.b false)))⟩])
 (.seq (.reg [
    ⟨none, some 3, .mv (.t 0)⟩,
    ⟨none, some 4, .call n_spec_l01In [.t 3, .k (.c (.i 0)), .k (.c (.i 100000))]⟩,
    ⟨none, some 2, .mv (.t 4)⟩])
 (.ret))
theorem h_spec_l03Level : Has Try.prog n_spec_l03Level 5 c_spec_l03Level [.t 2] := ⟨⟨Try.f119, _, Try.func119, rfl, rfl, by kernel_rfl, by kernel_rfl⟩⟩

def c_impl_inRange : SC :=
 .seq (.reg [
    ⟨none, some 6, .mv (.k (.c (.b false)))⟩])
 (.seq (.reg [
    ⟨none, some 7, .mv (.t 0)⟩,
    ⟨none, some 8, .mv (.t 1)⟩,
    ⟨none, some 9, .bin .geq (.t 7) (.t 8)⟩,
    ⟨none, some 10, .mv (.t 9)⟩,
    ⟨some (10, true), some 11, .mv (.t 0)⟩,
    ⟨some (10, true), some 12, .mv (.t 2)⟩,
    ⟨some (10, true), some 13, .bin .leq (.t 11) (.t 12)⟩,
    ⟨none, some 14, .pick (.t 10) (.t 13) (.k (.c (.b false)))⟩,
    ⟨none, some 6, .mv (.t 14)⟩])
 (.ret))
theorem h_impl_inRange : Has Try.prog n_impl_inRange 15 c_impl_inRange [.t 6] := ⟨⟨Try.f120, _, Try.func120, rfl, rfl, by kernel_rfl, by kernel_rfl⟩⟩

def c_laws_eqEntry : SC :=
 .seq (.reg [
    ⟨none, some 2, .box 5 (.t 0)⟩,
    ⟨none, some 3, .box 5 (.t 1)⟩,
    ⟨none, some 4, .mv (.k (.c (.b false)))⟩])
 (.seq (.seq (.reg [
     ⟨none, some 5, .fld 0 (.t 2)⟩,
     ⟨none, some 6, .ld1 (.t 5)⟩,
     ⟨none, some 7, .fld 0 (.t 3)⟩,
     ⟨none, some 8, .ld1 (.t 7)⟩,
     ⟨none, some 9, .bin .neq (.t 6) (.t 8)⟩])
  (.cond (.t 9)
   (.seq (.reg [
       ⟨none, some 4, .mv (.k (.c (.b false)))⟩])
    (.ret))
   (.skip)))
 (.seq (.seq (.reg [
     ⟨none, some 10, .fld 1 (.t 2)⟩,
     ⟨none, some 11, .ld1 (.t 10)⟩,
     ⟨none, some 12, .fld 1 (.t 3)⟩,
     ⟨none, some 13, .ld1 (.t 12)⟩,
     ⟨none, some 14, .bin .neq (.t 11) (.t 13)⟩])
  (.cond (.t 14)
   (.seq (.reg [
       ⟨none, some 4, .mv (.k (.c (.b false)))⟩])
    (.ret))
   (.skip)))
 (.seq (.seq (.reg [
     ⟨none, some 15, .fld 2 (.t 2)⟩,
     ⟨none, some 16, .ld1 (.t 15)⟩,
     ⟨none, some 17, .fld 2 (.t 3)⟩,
     ⟨none, some 18, .ld1 (.t 17)⟩,
     ⟨none, some 19, .bin .neq (.t 16) (.t 18)⟩])
  (.cond (.t 19)
   (.seq (.reg [
       ⟨none, some 4, .mv (.k (.c (.b false)))⟩])
    (.ret))
   (.skip)))
 (.seq (.seq (.reg [
     ⟨none, some 20, .fld 3 (.t 2)⟩,
     ⟨none, some 21, .ld1 (.t 20)⟩,
     ⟨none, some 22, .fld 3 (.t 3)⟩,
     ⟨none, some 23, .ld1 (.t 22)⟩,
     ⟨none, some 24, .bin .neq (.t 21) (.t 23)⟩])
  (.cond (.t 24)
   (.seq (.reg [
       ⟨none, some 4, .mv (.k (.c (.b false)))⟩])
    (.ret))
   (.skip)))
 (.seq (.seq (.reg [
     ⟨none, some 25, .fld 4 (.t 2)⟩,
     ⟨none, some 26, .ld1 (.t 25)⟩,
     ⟨none, some 27, .fld 4 (.t 3)⟩,
     ⟨none, some 28, .ld1 (.t 27)⟩,
     ⟨none, some 29, .bin .neq (.t 26) (.t 28)⟩])
  (.cond (.t 29)
   (.seq (.reg [
       ⟨none, some 4, .mv (.k (.c (.b false)))⟩])
    (.ret))
   (.skip)))
 (.seq (.reg [
    ⟨none, some 4, .mv (.k (.c (.b true)))⟩])
 (.ret)))))))
theorem h_laws_eqEntry : Has Try.prog n_laws_eqEntry 30 c_laws_eqEntry [.t 4] := ⟨⟨Try.f121, _, Try.func121, rfl, rfl, by kernel_rfl, by kernel_rfl⟩⟩

def c_laws_szIntS : SC :=
 .seq (.reg [
    ⟨none, some 4, .mv (.k (.c (.i 0)))⟩])
 (.seq (.reg [
    ⟨none, some 5, .mv (.t 1)⟩,
    ⟨none, some 6, .mv (.t 0)⟩,
    ⟨none, some 7, .len (.t 6)⟩,
    ⟨none, some 8, .bin .sub (.t 5) (.t 7)⟩,
    ⟨none, some 1, .mv (.t 8)⟩])
 (.seq (.seq (.reg [
     ⟨none, some 9, .mv (.t 1)⟩,
     ⟨none, some 10, .bin .lss (.t 9) (.k (.c (.i 0)))⟩])
  (.cond (.t 10)
   (.seq (.reg [
       ⟨none, some 4, .mv (.k (.c (.i (-1))))⟩])
    (.ret))
   (.skip)))
 (.seq (.reg [
    ⟨none, some 11, .mv (.t 1)⟩,
    ⟨none, some 4, .mv (.t 11)⟩])
 (.ret))))
theorem h_laws_szIntS : Has Try.prog n_laws_szIntS 12 c_laws_szIntS [.t 4] := ⟨⟨Try.f122, _, Try.func122, rfl, rfl, by kernel_rfl, by kernel_rfl⟩⟩



def c_spec_l01Below : SC :=
 .seq (.reg [
    ⟨none, some 4, .mv (.k (.c (.i 0)))⟩])
 (.seq (.seq (.reg [
     ⟨none, some 9, .mv (.t 1)⟩,
     ⟨none, some 10, .bin .leq (.t 9) (.k (.c (.i 0)))⟩])
  (.cond (.t 10)
   (.seq (.reg [
       ⟨none, some 4, .mv (.k (.c (.i 0)))⟩])
    (.ret))
   (.skip)))
 (.seq (.seq (.reg [
     ⟨none, some 11, .mv (.t 1)⟩,
     ⟨none, some 12, .bin .leq (.t 11) (.k (.c (.i 256)))⟩])
  (.cond (.t 12)
   (.seq (.reg [
       ⟨none, some 13, .mv (.t 0)⟩,
       ⟨none, some 14, .call n_spec_l01Byte [.t 13]⟩,
       ⟨none, some 15, .mv (.t 1)⟩,
       ⟨none, some 16, .bin .rem (.t 14) (.t 15)⟩,
       ⟨none, some 4, .mv (.t 16)⟩])
    (.ret))
   (.skip)))
 (.seq (.reg [
    ⟨none, some 17, .mv (.t 0)⟩,
    ⟨none, some 18, .call n_spec_l01Byte [.t 17]⟩,
    ⟨none, some 5, .mv (.t 18)⟩])
 (.seq (.reg [
    ⟨none, some 19, .mv (.t 0)⟩,
    ⟨none, some 20, .call n_spec_l01Byte [.t 19]⟩,
    ⟨none, some 6, .mv (.t 20)⟩])
 (.seq (.reg [
    ⟨none, some 21, .mv (.t 0)⟩,
    ⟨none, some 22, .call n_spec_l01Byte [.t 21]⟩,
    ⟨none, some 7, .mv (.t 22)⟩])
 (.seq (.reg [
    ⟨none, some 23, .mv (.t 0)⟩,
    ⟨none, some 24, .call n_spec_l01Byte [.t 23]⟩,
    ⟨none, some 8, .mv (.t 24)⟩])
 (.seq (.reg [
    ⟨none, some 25, .mv (.t 5)⟩,
    ⟨none, some 26, .bin .mul (.t 25) (.k (.c (.i 16777216)))⟩,
    ⟨none, some 27, .mv (.t 6)⟩,
    ⟨none, some 28, .bin .mul (.t 27) (.k (.c (.i 65536)))⟩,
    ⟨none, some 29, .bin .add (.t 26) (.t 28)⟩,
    ⟨none, some 30, .mv (.t 7)⟩,
    ⟨none, some 31, .bin .mul (.t 30) (.k (.c (.i 256)))⟩,
    ⟨none, some 32, .bin .add (.t 29) (.t 31)⟩,
    ⟨none, some 33, .mv (.t 8)⟩,
    ⟨none, some 34, .bin .add (.t 32) (.t 33)⟩,
    ⟨none, some 35, .mv (.t 1)⟩,
    ⟨none, some 36, .bin .rem (.t 34) (.t 35)⟩,
    ⟨none, some 4, .mv (.t 36)⟩])
 (.ret))))))))
theorem h_spec_l01Below : Has Try.prog n_spec_l01Below 37 c_spec_l01Below [.t 4] := ⟨⟨Try.f124, _, Try.func124, rfl, rfl, by kernel_rfl, by kernel_rfl⟩⟩

def c_spec_l06Call : SC :=
 .seq (.reg [
    ⟨none, some 6, .alloc [.c (.b false), .nil, .c (.i 0), .c (.i 0)]⟩])
 (.seq (.reg [
    ⟨none, some 7, .mv (.t 0)⟩,
    ⟨none, some 8, .mv (.t 1)⟩,
    ⟨none, some 9, .call n_spec_l04Train [.t 7, .t 8]⟩,
    ⟨none, some 10, .mv (.t 2)⟩,
    ⟨none, some 11, .mv (.t 0)⟩,
    ⟨none, some 12, .bsl 1 [.k (.c (.i 0)), .k (.c (.i 5)), .k (.c (.i 19)), .k (.c (.i 20)), .k (.c (.i 45)), .k (.c (.i 70))]⟩,
    ⟨none, some 13, .call n_spec_l01PickInt [.t 11, .t 12]⟩,
    ⟨none, some 14, .bin .sub (.t 10) (.t 13)⟩,
    ⟨none, some 15, .mx [.k (.c (.i 0)), .t 14]⟩,
    ⟨none, some 16, .mv (.t 0)⟩,
    ⟨none, some 17, .mv (.t 2)⟩,
    ⟨none, some 18, .bin .sub (.t 17) (.k (.c (.i 3)))⟩,
    ⟨none, some 19, .mv (.t 2)⟩,
    ⟨none, some 20, .mv (.t 2)⟩,
    ⟨none, some 21, .bin .add (.t 20) (.k (.c (.i 5)))⟩,
    ⟨none, some 22, .bsl 1 [.k (.c (.i (-1))), .k (.c (.i (-1))), .k (.c (.i (-1))), .t 18, .t 19, .t 21]⟩,
    ⟨none, some 23, .call n_spec_l01PickInt [.t 16, .t 22]⟩,
    ⟨none, some 24, .bld [.c (.b false), .nil, .c (.i 0), .c (.i 0)] [(0, 2, .t 9), (2, 1, .t 15), (3, 1, .t 23)]⟩,
    ⟨none, none, .stn 4 (.t 6) (.t 24)⟩])
 (.ret))
theorem h_spec_l06Call : Has Try.prog n_spec_l06Call 25 c_spec_l06Call [.cl 6 4] := ⟨⟨Try.f125, _, Try.func125, rfl, rfl, by kernel_rfl, by kernel_rfl⟩⟩

def c_spec_l08Book : SC :=
 .seq (.reg [
    ⟨none, some 2, .mv (.k (.nil))⟩])
 (.seq (.reg [
    ⟨none, some 5, .bsl 5 []⟩,
    ⟨none, some 3, .mv (.t 5)⟩])
 (.seq (.seq (.reg [
     ⟨none, some 6, .mv (.t 0)⟩,
     ⟨none, some 7, .call n_spec_l01Below [.t 6, .k (.c (.i 9))]⟩,
     ⟨none, some 4, .mv (.t 7)⟩])
  (.block 0 (.loop (.seq (.seq (.reg [
        ⟨none, some 8, .mv (.t 4)⟩,
        ⟨none, some 9, .bin .gtr (.t 8) (.k (.c (.i 0)))⟩])
     (.cond (.t 9)
      (.skip)
      (.exit 0)))
    (.seq (.block 1 (.reg [
        ⟨none, some 12, .mv (.t 3)⟩,
        ⟨none, some 13, .mv (.t 0)⟩,
        ⟨none, some 14, .call n_spec_l08Entry [.t 13]⟩,
        ⟨none, some 15, .bsl 5 [.t 14]⟩,
        ⟨none, some 16, .app 5 40 (.t 12) (.t 15)⟩,
        ⟨none, some 3, .mv (.t 16)⟩]))
    (.reg [
      ⟨none, some 10, .mv (.t 4)⟩,
      ⟨none, some 11, .bin .sub (.t 10) (.k (.c (.i 1)))⟩,
      ⟨none, some 4, .mv (.t 11)⟩]))))))
 (.seq (.reg [
    ⟨none, some 17, .mv (.t 3)⟩,
    ⟨none, some 2, .mv (.t 17)⟩])
 (.ret))))
theorem h_spec_l08Book : Has Try.prog n_spec_l08Book 18 c_spec_l08Book [.t 2] := ⟨⟨Try.f126, _, Try.func126, rfl, rfl, by kernel_rfl, by kernel_rfl⟩⟩

def c_slices_Clone___int_int_ : SC :=
 .seq (.reg [
    ⟨none, some 2, .mv (.k (.nil))⟩])
 (.seq (.seq (.reg [
     ⟨none, some 3, .mv (.t 0)⟩,
     ⟨none, some 4, .isn (.t 3)⟩])
  (.cond (.t 4)
   (.seq (.reg [
       ⟨none, some 2, .mv (.k (.nil))⟩])
    (.ret))
   (.skip)))
 (.seq (.reg [
    ⟨none, some 5, .bsl 1 []⟩,
    ⟨none, some 6, .mv (.t 0)⟩,
    ⟨none, some 7, .app 1 8 (.t 5) (.t 6)⟩,
    ⟨none, some 2, .mv (.t 7)⟩])
 (.ret)))
theorem h_slices_Clone___int_int_ : Has Try.prog n_slices_Clone___int_int_ 8 c_slices_Clone___int_int_ [.t 2] := ⟨⟨Try.f127, _, Try.func127, rfl, rfl, by kernel_rfl, by kernel_rfl⟩⟩



def c_slices_Clone___impl_Entry_impl_Entry_ : SC :=
 .seq (.reg [
    ⟨none, some 2, .mv (.k (.nil))⟩])
 (.seq (.seq (.reg [
     ⟨none, some 3, .mv (.t 0)⟩,
     ⟨none, some 4, .isn (.t 3)⟩])
  (.cond (.t 4)
   (.seq (.reg [
       ⟨none, some 2, .mv (.k (.nil))⟩])
    (.ret))
   (.skip)))
 (.seq (.reg [
    ⟨none, some 5, .bsl 5 []⟩,
    ⟨none, some 6, .mv (.t 0)⟩,
    ⟨none, some 7, .app 5 40 (.t 5) (.t 6)⟩,
    ⟨none, some 2, .mv (.t 7)⟩])
 (.ret)))
theorem h_slices_Clone___impl_Entry_impl_Entry_ : Has Try.prog n_slices_Clone___impl_Entry_impl_Entry_ 8 c_slices_Clone___impl_Entry_impl_Entry_ [.t 2] := ⟨⟨Try.f129, _, Try.func129, rfl, rfl, by kernel_rfl, by kernel_rfl⟩⟩

def c_spec_TrainOk : SC :=
 .seq (.reg [
    ⟨none, some 1, .box 2 (.t 0)⟩,
    ⟨none, some 2, .mv (.k (.c (.b false)))⟩])
 (.seq (.reg [
    ⟨none, some 7, .ldn 2 (.t 1)⟩,
    ⟨none, some 8, .call n_spec_l04Boats [.t 7]⟩,
    ⟨none, some 3, .mv (.t 8)⟩])
 (.seq (.seq (.reg [
     ⟨none, some 4, .mv (.k (.c (.i 0)))⟩])
  (.block 0 (.loop (.seq (.seq (.reg [
        ⟨none, some 9, .mv (.t 4)⟩,
        ⟨none, some 10, .fld 1 (.t 1)⟩,
        ⟨none, some 11, .ld1 (.t 10)⟩,
        ⟨none, some 12, .len (.t 11)⟩,
        ⟨none, some 13, .bin .lss (.t 9) (.t 12)⟩])
     (.cond (.t 13)
      (.skip)
      (.exit 0)))
    (.seq (.block 1 (.seq (.reg [
         ⟨none, some 16, .fld 1 (.t 1)⟩,
         ⟨none, some 17, .ld1 (.t 16)⟩,
         ⟨none, some 18, .mv (.t 4)⟩,
         ⟨none, some 19, .idx 1 (.t 17) (.t 18)⟩,
         ⟨none, some 20, .ld1 (.t 19)⟩,
         ⟨none, some 21, .len (.t 20)⟩,
         ⟨none, some 22, .bin .eql (.t 21) (.k (.c (.i 0)))⟩])
      (.cond (.t 22)
       (.seq (.reg [
           ⟨none, some 2, .mv (.k (.c (.b false)))⟩])
        (.ret))
       (.skip))))
    (.reg [
      ⟨none, some 14, .mv (.t 4)⟩,
      ⟨none, some 15, .bin .add (.t 14) (.k (.c (.i 1)))⟩,
      ⟨none, some 4, .mv (.t 15)⟩]))))))
 (.seq (.seq (.reg [
     ⟨none, some 5, .mv (.k (.c (.i 0)))⟩])
  (.block 2 (.loop (.seq (.seq (.reg [
        ⟨none, some 23, .mv (.t 5)⟩,
        ⟨none, some 24, .mv (.t 3)⟩,
        ⟨none, some 25, .len (.t 24)⟩,
        ⟨none, some 26, .bin .lss (.t 23) (.t 25)⟩,
        ⟨none, some 27, .mv (.t 26)⟩,
        ⟨some (27, true), some 28, .mv (.t 3)⟩,
        ⟨some (27, true), some 29, .len (.t 28)⟩,
        ⟨some (27, true), some 30, .bin .leq (.t 29) (.k (.c (.i 6)))⟩,
        ⟨none, some 31, .pick (.t 27) (.t 30) (.k (.c (.b false)))⟩])
     (.cond (.t 31)
      (.skip)
      (.exit 2)))
    (.seq (.block 3 (.seq (.seq (.reg [
          ⟨none, some 34, .mv (.t 3)⟩,
          ⟨none, some 35, .mv (.t 5)⟩,
          ⟨none, some 36, .idx 6 (.t 34) (.t 35)⟩,
          ⟨none, some 37, .ldn 6 (.t 36)⟩,
          ⟨none, some 38, .call n_spec_BoatOk [.t 37]⟩,
          ⟨none, some 39, .not (.t 38)⟩])
       (.cond (.t 39)
        (.seq (.reg [
            ⟨none, some 2, .mv (.k (.c (.b false)))⟩])
         (.ret))
        (.skip)))
      (.seq (.reg [
         ⟨none, some 6, .mv (.k (.c (.i 0)))⟩])
      (.block 4 (.loop (.seq (.seq (.reg [
            ⟨none, some 40, .mv (.t 6)⟩,
            ⟨none, some 41, .mv (.t 5)⟩,
            ⟨none, some 42, .bin .lss (.t 40) (.t 41)⟩])
         (.cond (.t 42)
          (.skip)
          (.exit 4)))
        (.seq (.block 5 (.seq (.regq [
             ⟨none, some 45, .mv (.t 3)⟩,
             ⟨none, some 46, .mv (.t 6)⟩,
             ⟨none, some 47, .idx 6 (.t 45) (.t 46)⟩,
             ⟨none, some 48, .fld 0 (.t 47)⟩,
             ⟨none, some 49, .ld1 (.t 48)⟩,
             ⟨none, some 50, .mv (.t 3)⟩,
             ⟨none, some 51, .mv (.t 5)⟩,
             ⟨none, some 52, .idx 6 (.t 50) (.t 51)⟩,
             ⟨none, some 53, .fld 0 (.t 52)⟩,
             ⟨none, some 54, .ld1 (.t 53)⟩,
             ⟨none, some 55, .bin .eql (.t 49) (.t 54)⟩])
          (.cond (.t 55)
           (.seq (.reg [
               ⟨none, some 2, .mv (.k (.c (.b false)))⟩])
            (.ret))
           (.skip))))
        (.reg [
          ⟨none, some 43, .mv (.t 6)⟩,
          ⟨none, some 44, .bin .add (.t 43) (.k (.c (.i 1)))⟩,
          ⟨none, some 6, .mv (.t 44)⟩]))))))))
    (.reg [
      ⟨none, some 32, .mv (.t 5)⟩,
      ⟨none, some 33, .bin .add (.t 32) (.k (.c (.i 1)))⟩,
      ⟨none, some 5, .mv (.t 33)⟩]))))))
 (.seq (.reg [
    ⟨none, some 56, .mv (.t 3)⟩,
    ⟨none, some 57, .len (.t 56)⟩,
    ⟨none, some 58, .call n_spec_l01In [.t 57, .k (.c (.i 1)), .k (.c (.i 6))]⟩,
    ⟨none, some 2, .mv (.t 58)⟩])
 (.ret)))))
theorem h_spec_TrainOk : Has Try.prog n_spec_TrainOk 59 c_spec_TrainOk [.t 2] := ⟨⟨Try.f130, _, Try.func130, rfl, rfl, by kernel_rfl, by kernel_rfl⟩⟩



def c_impl_endOf : SC :=
 .seq (.reg [
    ⟨none, some 2, .box 2 (.t 0)⟩,
    ⟨none, some 3, .box 2 (.t 1)⟩,
    ⟨none, some 4, .mv (.k (.c (.i 0)))⟩])
 (.seq (.seq (.reg [
     ⟨none, some 5, .fld 0 (.t 2)⟩,
     ⟨none, some 6, .ld1 (.t 5)⟩])
  (.cond (.t 6)
   (.seq (.reg [
       ⟨none, some 4, .mv (.k (.c (.i 0)))⟩])
    (.ret))
   (.skip)))
 (.seq (.reg [
    ⟨none, some 7, .fld 0 (.t 3)⟩,
    ⟨none, some 8, .ld1 (.t 7)⟩,
    ⟨none, some 4, .mv (.t 8)⟩])
 (.ret)))
theorem h_impl_endOf : Has Try.prog n_impl_endOf 9 c_impl_endOf [.t 4] := ⟨⟨Try.f132, _, Try.func132, rfl, rfl, by kernel_rfl, by kernel_rfl⟩⟩

def c_laws_szBoatSS : SC :=
 .seq (.reg [
    ⟨none, some 4, .mv (.k (.c (.i 0)))⟩])
 (.seq (.reg [
    ⟨none, some 6, .mv (.t 1)⟩,
    ⟨none, some 7, .mv (.t 0)⟩,
    ⟨none, some 8, .len (.t 7)⟩,
    ⟨none, some 9, .bin .sub (.t 6) (.t 8)⟩,
    ⟨none, some 1, .mv (.t 9)⟩])
 (.seq (.seq (.reg [
     ⟨none, some 10, .mv (.t 1)⟩,
     ⟨none, some 11, .bin .lss (.t 10) (.k (.c (.i 0)))⟩])
  (.cond (.t 11)
   (.seq (.reg [
       ⟨none, some 4, .mv (.k (.c (.i (-1))))⟩])
    (.ret))
   (.skip)))
 (.seq (.seq (.reg [
     ⟨none, some 5, .mv (.k (.c (.i 0)))⟩])
  (.block 0 (.loop (.seq (.seq (.reg [
        ⟨none, some 12, .mv (.t 5)⟩,
        ⟨none, some 13, .mv (.t 0)⟩,
        ⟨none, some 14, .len (.t 13)⟩,
        ⟨none, some 15, .bin .lss (.t 12) (.t 14)⟩])
     (.cond (.t 15)
      (.skip)
      (.exit 0)))
    (.seq (.block 1 (.seq (.reg [
         ⟨none, some 18, .mv (.t 0)⟩,
         ⟨none, some 19, .mv (.t 5)⟩,
         ⟨none, some 20, .idx 1 (.t 18) (.t 19)⟩,
         ⟨none, some 21, .ld1 (.t 20)⟩,
         ⟨none, some 22, .mv (.t 1)⟩,
         ⟨none, some 23, .call n_laws_szBoatS [.t 21, .t 22]⟩,
         ⟨none, some 1, .mv (.t 23)⟩])
      (.seq (.reg [
         ⟨none, some 24, .mv (.t 1)⟩,
         ⟨none, some 25, .bin .lss (.t 24) (.k (.c (.i 0)))⟩])
      (.cond (.t 25)
       (.seq (.reg [
           ⟨none, some 4, .mv (.k (.c (.i (-1))))⟩])
        (.ret))
       (.skip)))))
    (.reg [
      ⟨none, some 16, .mv (.t 5)⟩,
      ⟨none, some 17, .bin .add (.t 16) (.k (.c (.i 1)))⟩,
      ⟨none, some 5, .mv (.t 17)⟩]))))))
 (.seq (.reg [
    ⟨none, some 26, .mv (.t 1)⟩,
    ⟨none, some 4, .mv (.t 26)⟩])
 (.ret)))))
theorem h_laws_szBoatSS : Has Try.prog n_laws_szBoatSS 27 c_laws_szBoatSS [.t 4] := ⟨⟨Try.f133, _, Try.func133, rfl, rfl, by kernel_rfl, by kernel_rfl⟩⟩

def c_laws_toBoatSS : SC :=
 .seq (.reg [
    ⟨none, some 2, .mv (.k (.nil))⟩])
 (.seq (.reg [
    ⟨none, some 5, .mv (.t 0)⟩,
    ⟨none, some 6, .len (.t 5)⟩,
    ⟨none, some 7, .mks 1 24 [.sl 6 []] (.t 6) (.t 6)⟩,
    ⟨none, some 3, .mv (.t 7)⟩])
 (.seq (.seq (.reg [
     ⟨none, some 4, .mv (.k (.c (.i 0)))⟩])
  (.block 0 (.loop (.seq (.seq (.reg [
        ⟨none, some 8, .mv (.t 4)⟩,
        ⟨none, some 9, .mv (.t 0)⟩,
        ⟨none, some 10, .len (.t 9)⟩,
        ⟨none, some 11, .bin .lss (.t 8) (.t 10)⟩])
     (.cond (.t 11)
      (.skip)
      (.exit 0)))
    (.seq (.block 1 (.reg [
        ⟨none, some 14, .mv (.t 3)⟩,
        ⟨none, some 15, .mv (.t 4)⟩,
        ⟨none, some 16, .mv (.t 0)⟩,
        ⟨none, some 17, .mv (.t 4)⟩,
        ⟨none, some 18, .idx 1 (.t 16) (.t 17)⟩,
        ⟨none, some 19, .ld1 (.t 18)⟩,
        ⟨none, some 20, .call n_laws_toBoatS [.t 19]⟩,
        ⟨none, some 21, .idx 1 (.t 14) (.t 15)⟩,
        ⟨none, none, .st1 (.t 21) (.t 20)⟩]))
    (.reg [
      ⟨none, some 12, .mv (.t 4)⟩,
      ⟨none, some 13, .bin .add (.t 12) (.k (.c (.i 1)))⟩,
      ⟨none, some 4, .mv (.t 13)⟩]))))))
 (.seq (.reg [
    ⟨none, some 22, .mv (.t 3)⟩,
    ⟨none, some 2, .mv (.t 22)⟩])
 (.ret))))
theorem h_laws_toBoatSS : Has Try.prog n_laws_toBoatSS 23 c_laws_toBoatSS [.t 2] := ⟨⟨Try.f134, _, Try.func134, rfl, rfl, by kernel_rfl, by kernel_rfl⟩⟩

def c_impl_DraughtOf : SC :=
 .seq (.reg [
    ⟨none, some 1, .box 2 (.t 0)⟩,
    ⟨none, some 2, .mv (.k (.c (.i 0)))⟩])
 (.seq (.seq (.reg [
     ⟨none, some 6, .ldn 2 (.t 1)⟩,
     ⟨none, some 7, .call n_impl_TrainOk [.t 6]⟩,
     ⟨none, some 8, .not (.t 7)⟩])
  (.cond (.t 8)
   (.seq (.reg [
       ⟨none, some 2, .mv (.k (.c (.i 0)))⟩])
    (.ret))
   (.skip)))
 (.seq (.reg [
    ⟨none, some 3, .mv (.k (.c (.i 0)))⟩])
 (.seq (.seq (.reg [
     ⟨none, some 9, .ldn 2 (.t 1)⟩,
     ⟨none, some 10, .call n_impl_boatsOf [.t 9]⟩,
     ⟨none, some 11, .len (.t 10)⟩,
     ⟨none, some 12, .mv (.k (.c (.i 0)))⟩])
  (.block 0 (.loop (.seq (.reg [
       ⟨none, some 13, .bin .lss (.t 12) (.t 11)⟩])
    (.seq (.cond (.t 13)
      (.skip)
      (.exit 0))
    (.seq (.block 1 (.seq (.reg [
         ⟨none, some 14, .idx 6 (.t 10) (.t 12)⟩,
         ⟨none, some 15, .ldn 6 (.t 14)⟩,
         ⟨none, some 5, .alloc [.c (.i 0), .c (.i 0), .c (.i 0), .c (.i 0), .c (.i 0), .c (.i 0)]⟩,
         ⟨none, none, .stn 6 (.t 5) (.t 15)⟩])
      (.reg [
        ⟨none, some 16, .mv (.t 3)⟩,
        ⟨none, some 17, .fld 3 (.t 5)⟩,
        ⟨none, some 18, .ld1 (.t 17)⟩,
        ⟨none, some 19, .mx [.t 16, .t 18]⟩,
        ⟨none, some 3, .mv (.t 19)⟩])))
    (.reg [
      ⟨none, some 20, .bin .add (.t 12) (.k (.c (.i 1)))⟩,
      ⟨none, some 12, .mv (.t 20)⟩])))))))
 (.seq (.reg [
    ⟨none, some 21, .mv (.t 3)⟩,
    ⟨none, some 2, .mv (.t 21)⟩])
 (.ret)))))
theorem h_impl_DraughtOf : Has Try.prog n_impl_DraughtOf 22 c_impl_DraughtOf [.t 2] := ⟨⟨Try.f135, _, Try.func135, rfl, rfl, by kernel_rfl, by kernel_rfl⟩⟩

def c_impl_SpeedOf : SC :=
 .seq (.reg [
    ⟨none, some 1, .box 2 (.t 0)⟩,
    ⟨none, some 2, .mv (.k (.c (.i 0)))⟩])
 (.seq (.seq (.reg [
     ⟨none, some 6, .ldn 2 (.t 1)⟩,
     ⟨none, some 7, .call n_impl_TrainOk [.t 6]⟩,
     ⟨none, some 8, .not (.t 7)⟩])
  (.cond (.t 8)
   (.seq (.reg [
       ⟨none, some 2, .mv (.k (.c (.i 0)))⟩])
    (.ret))
   (.skip)))
 (.seq (.reg [
    ⟨none, some 9, .fld 1 (.t 1)⟩,
    ⟨none, some 10, .ld1 (.t 9)⟩,
    ⟨none, some 11, .idx 1 (.t 10) (.k (.c (.i 0)))⟩,
    ⟨none, some 12, .ld1 (.t 11)⟩,
    ⟨none, some 13, .idx 6 (.t 12) (.k (.c (.i 0)))⟩,
    ⟨none, some 14, .fld 4 (.t 13)⟩,
    ⟨none, some 15, .ld1 (.t 14)⟩,
    ⟨none, some 3, .mv (.t 15)⟩])
 (.seq (.seq (.reg [
     ⟨none, some 16, .ldn 2 (.t 1)⟩,
     ⟨none, some 17, .call n_impl_boatsOf [.t 16]⟩,
     ⟨none, some 18, .len (.t 17)⟩,
     ⟨none, some 19, .mv (.k (.c (.i 0)))⟩])
  (.block 0 (.loop (.seq (.reg [
       ⟨none, some 20, .bin .lss (.t 19) (.t 18)⟩])
    (.seq (.cond (.t 20)
      (.skip)
      (.exit 0))
    (.seq (.block 1 (.seq (.reg [
         ⟨none, some 21, .idx 6 (.t 17) (.t 19)⟩,
         ⟨none, some 22, .ldn 6 (.t 21)⟩,
         ⟨none, some 5, .alloc [.c (.i 0), .c (.i 0), .c (.i 0), .c (.i 0), .c (.i 0), .c (.i 0)]⟩,
         ⟨none, none, .stn 6 (.t 5) (.t 22)⟩])
      (.reg [
        ⟨none, some 23, .mv (.t 3)⟩,
        ⟨none, some 24, .fld 4 (.t 5)⟩,
        ⟨none, some 25, .ld1 (.t 24)⟩,
        ⟨none, some 26, .mn [.t 23, .t 25]⟩,
        ⟨none, some 3, .mv (.t 26)⟩])))
    (.reg [
      ⟨none, some 27, .bin .add (.t 19) (.k (.c (.i 1)))⟩,
      ⟨none, some 19, .mv (.t 27)⟩])))))))
 (.seq (.reg [
    ⟨none, some 28, .mv (.t 3)⟩,
    ⟨none, some 2, .mv (.t 28)⟩])
 (.ret)))))
theorem h_impl_SpeedOf : Has Try.prog n_impl_SpeedOf 29 c_impl_SpeedOf [.t 2] := ⟨⟨Try.f136, _, Try.func136, rfl, rfl, by kernel_rfl, by kernel_rfl⟩⟩

def c_laws_eqBoatSS : SC :=
 .seq (.reg [
    ⟨none, some 4, .mv (.k (.c (.b false)))⟩])
 (.seq (.seq (.reg [
     ⟨none, some 6, .mv (.t 0)⟩,
     ⟨none, some 7, .len (.t 6)⟩,
     ⟨none, some 8, .mv (.t 1)⟩,
     ⟨none, some 9, .len (.t 8)⟩,
     ⟨none, some 10, .bin .neq (.t 7) (.t 9)⟩])
  (.cond (.t 10)
   (.seq (.reg [
       ⟨none, some 4, .mv (.k (.c (.b false)))⟩])
    (.ret))
   (.skip)))
 (.seq (.seq (.reg [
     ⟨none, some 5, .mv (.k (.c (.i 0)))⟩])
  (.block 0 (.loop (.seq (.seq (.reg [
        ⟨none, some 11, .mv (.t 5)⟩,
        ⟨none, some 12, .mv (.t 0)⟩,
        ⟨none, some 13, .len (.t 12)⟩,
        ⟨none, some 14, .bin .lss (.t 11) (.t 13)⟩])
     (.cond (.t 14)
      (.skip)
      (.exit 0)))
    (.seq (.block 1 (.seq (.regq [
         ⟨none, some 17, .mv (.t 0)⟩,
         ⟨none, some 18, .mv (.t 5)⟩,
         ⟨none, some 19, .idx 1 (.t 17) (.t 18)⟩,
         ⟨none, some 20, .ld1 (.t 19)⟩,
         ⟨none, some 21, .mv (.t 1)⟩,
         ⟨none, some 22, .mv (.t 5)⟩,
         ⟨none, some 23, .idx 1 (.t 21) (.t 22)⟩,
         ⟨none, some 24, .ld1 (.t 23)⟩,
         ⟨none, some 25, .call n_laws_eqBoatS [.t 20, .t 24]⟩,
         ⟨none, some 26, .not (.t 25)⟩])
      (.cond (.t 26)
       (.seq (.reg [
           ⟨none, some 4, .mv (.k (.c (.b false)))⟩])
        (.ret))
       (.skip))))
    (.reg [
      ⟨none, some 15, .mv (.t 5)⟩,
      ⟨none, some 16, .bin .add (.t 15) (.k (.c (.i 1)))⟩,
      ⟨none, some 5, .mv (.t 16)⟩]))))))
 (.seq (.reg [
    ⟨none, some 4, .mv (.k (.c (.b true)))⟩])
 (.ret))))
theorem h_laws_eqBoatSS : Has Try.prog n_laws_eqBoatSS 27 c_laws_eqBoatSS [.t 4] := ⟨⟨Try.f137, _, Try.func137, rfl, rfl, by kernel_rfl, by kernel_rfl⟩⟩

def c_laws_szPointS : SC :=
 .seq (.reg [
    ⟨none, some 4, .mv (.k (.c (.i 0)))⟩])
 (.seq (.reg [
    ⟨none, some 5, .mv (.t 1)⟩,
    ⟨none, some 6, .mv (.t 0)⟩,
    ⟨none, some 7, .len (.t 6)⟩,
    ⟨none, some 8, .bin .sub (.t 5) (.t 7)⟩,
    ⟨none, some 1, .mv (.t 8)⟩])
 (.seq (.seq (.reg [
     ⟨none, some 9, .mv (.t 1)⟩,
     ⟨none, some 10, .bin .lss (.t 9) (.k (.c (.i 0)))⟩])
  (.cond (.t 10)
   (.seq (.reg [
       ⟨none, some 4, .mv (.k (.c (.i (-1))))⟩])
    (.ret))
   (.skip)))
 (.seq (.reg [
    ⟨none, some 11, .mv (.t 1)⟩,
    ⟨none, some 4, .mv (.t 11)⟩])
 (.ret))))
theorem h_laws_szPointS : Has Try.prog n_laws_szPointS 12 c_laws_szPointS [.t 4] := ⟨⟨Try.f138, _, Try.func138, rfl, rfl, by kernel_rfl, by kernel_rfl⟩⟩

def c_spec_ReachOk : SC :=
 .seq (.reg [
    ⟨none, some 1, .box 3 (.t 0)⟩,
    ⟨none, some 2, .mv (.k (.c (.b false)))⟩])
 (.seq (.seq (.reg [
     ⟨none, some 4, .fld 0 (.t 1)⟩,
     ⟨none, some 5, .ld1 (.t 4)⟩,
     ⟨none, some 6, .call n_spec_TableOk [.t 5]⟩,
     ⟨none, some 7, .not (.t 6)⟩,
     ⟨none, some 8, .mv (.t 7)⟩,
     ⟨some (8, false), some 9, .fld 1 (.t 1)⟩,
     ⟨some (8, false), some 10, .ld1 (.t 9)⟩,
     ⟨some (8, false), some 11, .call n_spec_l01In [.t 10, .k (.c (.i 0)), .k (.c (.i 1000000000))]⟩,
     ⟨some (8, false), some 12, .not (.t 11)⟩,
     ⟨none, some 13, .pick (.t 8) (.k (.c (.b true))) (.t 12)⟩,
     ⟨none, some 14, .mv (.t 13)⟩,
     ⟨some (14, false), some 15, .fld 2 (.t 1)⟩,
     ⟨some (14, false), some 16, .ld1 (.t 15)⟩,
     ⟨some (14, false), some 17, .len (.t 16)⟩,
     ⟨some (14, false), some 18, .bin .gtr (.t 17) (.k (.c (.i 12)))⟩,
     ⟨none, some 19, .pick (.t 14) (.k (.c (.b true))) (.t 18)⟩])
  (.cond (.t 19)
   (.seq (.reg [
       ⟨none, some 2, .mv (.k (.c (.b false)))⟩])
    (.ret))
   (.skip)))
 (.seq (.seq (.reg [
     ⟨none, some 3, .mv (.k (.c (.i 0)))⟩])
  (.block 0 (.loop (.seq (.seq (.reg [
        ⟨none, some 20, .mv (.t 3)⟩,
        ⟨none, some 21, .fld 2 (.t 1)⟩,
        ⟨none, some 22, .ld1 (.t 21)⟩,
        ⟨none, some 23, .len (.t 22)⟩,
        ⟨none, some 24, .bin .lss (.t 20) (.t 23)⟩])
     (.cond (.t 24)
      (.skip)
      (.exit 0)))
    (.seq (.block 1 (.seq (.reg [
         ⟨none, some 27, .fld 2 (.t 1)⟩,
         ⟨none, some 28, .ld1 (.t 27)⟩,
         ⟨none, some 29, .mv (.t 3)⟩,
         ⟨none, some 30, .idx 1 (.t 28) (.t 29)⟩,
         ⟨none, some 31, .ld1 (.t 30)⟩,
         ⟨none, some 32, .call n_spec_l01In [.t 31, .k (.c (.i 0)), .k (.c (.i 1000000000))]⟩,
         ⟨none, some 33, .not (.t 32)⟩])
      (.cond (.t 33)
       (.seq (.reg [
           ⟨none, some 2, .mv (.k (.c (.b false)))⟩])
        (.ret))
       (.skip))))
    (.reg [
      ⟨none, some 25, .mv (.t 3)⟩,
      ⟨none, some 26, .bin .add (.t 25) (.k (.c (.i 1)))⟩,
      ⟨none, some 3, .mv (.t 26)⟩]))))))
 (.seq (.reg [
    ⟨none, some 34, .ldn 3 (.t 1)⟩,
    ⟨none, some 35, .call n_spec_l02Sum [.t 34]⟩,
    ⟨none, some 36, .bin .leq (.t 35) (.k (.c (.i 1000000000)))⟩,
    ⟨none, some 2, .mv (.t 36)⟩])
 (.ret))))
theorem h_spec_ReachOk : Has Try.prog n_spec_ReachOk 37 c_spec_ReachOk [.t 2] := ⟨⟨Try.f139, _, Try.func139, rfl, rfl, by kernel_rfl, by kernel_rfl⟩⟩

def c_spec_LevelOf : SC :=
 .seq (.reg [
    ⟨none, some 1, .box 3 (.t 0)⟩,
    ⟨none, some 2, .mv (.k (.c (.i 0)))⟩])
 (.seq (.seq (.reg [
     ⟨none, some 5, .ldn 3 (.t 1)⟩,
     ⟨none, some 6, .call n_spec_ReachOk [.t 5]⟩,
     ⟨none, some 7, .not (.t 6)⟩])
  (.cond (.t 7)
   (.seq (.reg [
       ⟨none, some 2, .mv (.k (.c (.i 0)))⟩])
    (.ret))
   (.skip)))
 (.seq (.reg [
    ⟨none, some 9, .fld 0 (.t 1)⟩,
    ⟨none, some 10, .ld1 (.t 9)⟩,
    ⟨none, some 11, .fld 1 (.t 1)⟩,
    ⟨none, some 12, .ld1 (.t 11)⟩,
    ⟨none, some 13, .call n_spec_PlaceOf [.t 10, .t 12]⟩,
    ⟨none, some 8, .mv (.t 13)⟩,
    ⟨none, some 14, .ext 0 (.t 8)⟩,
    ⟨none, some 15, .ext 1 (.t 8)⟩,
    ⟨none, some 3, .mv (.t 14)⟩,
    ⟨none, some 4, .mv (.t 15)⟩])
 (.seq (.seq (.reg [
     ⟨none, some 16, .mv (.t 4)⟩,
     ⟨none, some 17, .not (.t 16)⟩])
  (.cond (.t 17)
   (.seq (.reg [
       ⟨none, some 18, .fld 0 (.t 1)⟩,
       ⟨none, some 19, .ld1 (.t 18)⟩,
       ⟨none, some 20, .fld 0 (.t 1)⟩,
       ⟨none, some 21, .ld1 (.t 20)⟩,
       ⟨none, some 22, .len (.t 21)⟩,
       ⟨none, some 23, .bin .sub (.t 22) (.k (.c (.i 1)))⟩,
       ⟨none, some 24, .idx 2 (.t 19) (.t 23)⟩,
       ⟨none, some 25, .fld 0 (.t 24)⟩,
       ⟨none, some 26, .ld1 (.t 25)⟩,
       ⟨none, some 2, .mv (.t 26)⟩])
    (.ret))
   (.skip)))
 (.seq (.reg [
    ⟨none, some 27, .mv (.t 3)⟩,
    ⟨none, some 2, .mv (.t 27)⟩])
 (.ret)))))
theorem h_spec_LevelOf : Has Try.prog n_spec_LevelOf 28 c_spec_LevelOf [.t 2] := ⟨⟨Try.f140, _, Try.func140, rfl, rfl, by kernel_rfl, by kernel_rfl⟩⟩

def c_laws_toPointS : SC :=
 .seq (.reg [
    ⟨none, some 2, .mv (.k (.nil))⟩])
 (.seq (.reg [
    ⟨none, some 5, .mv (.t 0)⟩,
    ⟨none, some 6, .len (.t 5)⟩,
    ⟨none, some 7, .mks 2 16 [.i 0, .i 0] (.t 6) (.t 6)⟩,
    ⟨none, some 3, .mv (.t 7)⟩])
 (.seq (.seq (.reg [
     ⟨none, some 4, .mv (.k (.c (.i 0)))⟩])
  (.block 0 (.loop (.seq (.seq (.reg [
        ⟨none, some 8, .mv (.t 4)⟩,
        ⟨none, some 9, .mv (.t 0)⟩,
        ⟨none, some 10, .len (.t 9)⟩,
        ⟨none, some 11, .bin .lss (.t 8) (.t 10)⟩])
     (.cond (.t 11)
      (.skip)
      (.exit 0)))
    (.seq (.block 1 (.reg [
        ⟨none, some 14, .mv (.t 3)⟩,
        ⟨none, some 15, .mv (.t 4)⟩,
        ⟨none, some 16, .mv (.t 0)⟩,
        ⟨none, some 17, .mv (.t 4)⟩,
        ⟨none, some 18, .idx 2 (.t 16) (.t 17)⟩,
        ⟨none, some 19, .ldn 2 (.t 18)⟩,
        ⟨none, some 20, .call n_laws_toPoint [.t 19]⟩,
        ⟨none, some 21, .idx 2 (.t 14) (.t 15)⟩,
        ⟨none, none, .stn 2 (.t 21) (.t 20)⟩]))
    (.reg [
      ⟨none, some 12, .mv (.t 4)⟩,
      ⟨none, some 13, .bin .add (.t 12) (.k (.c (.i 1)))⟩,
      ⟨none, some 4, .mv (.t 13)⟩]))))))
 (.seq (.reg [
    ⟨none, some 22, .mv (.t 3)⟩,
    ⟨none, some 2, .mv (.t 22)⟩])
 (.ret))))
theorem h_laws_toPointS : Has Try.prog n_laws_toPointS 23 c_laws_toPointS [.t 2] := ⟨⟨Try.f141, _, Try.func141, rfl, rfl, by kernel_rfl, by kernel_rfl⟩⟩

def c_impl_ReachOk : SC :=
 .seq (.reg [
    ⟨none, some 1, .box 3 (.t 0)⟩,
    ⟨none, some 2, .mv (.k (.c (.b false)))⟩])
 (.seq (.seq (.reg [
     ⟨none, some 6, .fld 0 (.t 1)⟩,
     ⟨none, some 7, .ld1 (.t 6)⟩,
     ⟨none, some 8, .call n_impl_TableOk [.t 7]⟩,
     ⟨none, some 9, .not (.t 8)⟩,
     ⟨none, some 10, .mv (.t 9)⟩,
     ⟨some (10, false), some 11, .fld 1 (.t 1)⟩,
     ⟨some (10, false), some 12, .ld1 (.t 11)⟩,
     ⟨some (10, false), some 13, .call n_impl_inRange [.t 12, .k (.c (.i 0)), .k (.c (.i 1000000000))]⟩,
     ⟨some (10, false), some 14, .not (.t 13)⟩,
     ⟨none, some 15, .pick (.t 10) (.k (.c (.b true))) (.t 14)⟩,
     ⟨none, some 16, .mv (.t 15)⟩,
     ⟨some (16, false), some 17, .fld 2 (.t 1)⟩,
     ⟨some (16, false), some 18, .ld1 (.t 17)⟩,
     ⟨some (16, false), some 19, .len (.t 18)⟩,
     ⟨some (16, false), some 20, .bin .gtr (.t 19) (.k (.c (.i 12)))⟩,
     ⟨none, some 21, .pick (.t 16) (.k (.c (.b true))) (.t 20)⟩])
  (.cond (.t 21)
   (.seq (.reg [
       ⟨none, some 2, .mv (.k (.c (.b false)))⟩])
    (.ret))
   (.skip)))
 (.seq (.reg [
    ⟨none, some 22, .fld 1 (.t 1)⟩,
    ⟨none, some 23, .ld1 (.t 22)⟩,
    ⟨none, some 24, .bin .sub (.k (.c (.i 1000000000))) (.t 23)⟩,
    ⟨none, some 3, .mv (.t 24)⟩])
 (.seq (.seq (.reg [
     ⟨none, some 25, .fld 2 (.t 1)⟩,
     ⟨none, some 26, .ld1 (.t 25)⟩,
     ⟨none, some 27, .len (.t 26)⟩,
     ⟨none, some 28, .mv (.k (.c (.i 0)))⟩])
  (.block 0 (.loop (.seq (.reg [
       ⟨none, some 29, .bin .lss (.t 28) (.t 27)⟩])
    (.seq (.cond (.t 29)
      (.skip)
      (.exit 0))
    (.seq (.block 1 (.seq (.reg [
         ⟨none, some 30, .idx 1 (.t 26) (.t 28)⟩,
         ⟨none, some 31, .ld1 (.t 30)⟩,
         ⟨none, some 5, .mv (.t 31)⟩])
      (.seq (.seq (.reg [
          ⟨none, some 32, .mv (.t 5)⟩,
          ⟨none, some 33, .bin .lss (.t 32) (.k (.c (.i 0)))⟩,
          ⟨none, some 34, .mv (.t 33)⟩,
          ⟨some (34, false), some 35, .mv (.t 5)⟩,
          ⟨some (34, false), some 36, .mv (.t 3)⟩,
          ⟨some (34, false), some 37, .bin .gtr (.t 35) (.t 36)⟩,
          ⟨none, some 38, .pick (.t 34) (.k (.c (.b true))) (.t 37)⟩])
       (.cond (.t 38)
        (.seq (.reg [
            ⟨none, some 2, .mv (.k (.c (.b false)))⟩])
         (.ret))
        (.skip)))
      (.reg [
        ⟨none, some 39, .mv (.t 3)⟩,
        ⟨none, some 40, .mv (.t 5)⟩,
        ⟨none, some 41, .bin .sub (.t 39) (.t 40)⟩,
        ⟨none, some 3, .mv (.t 41)⟩]))))
    (.reg [
      ⟨none, some 42, .bin .add (.t 28) (.k (.c (.i 1)))⟩,
      ⟨none, some 28, .mv (.t 42)⟩])))))))
 (.seq (.reg [
    ⟨none, some 2, .mv (.k (.c (.b true)))⟩])
 (.ret)))))
theorem h_impl_ReachOk : Has Try.prog n_impl_ReachOk 43 c_impl_ReachOk [.t 2] := ⟨⟨Try.f142, _, Try.func142, rfl, rfl, by kernel_rfl, by kernel_rfl⟩⟩

def c_impl_LevelOf : SC :=
 .seq (.reg [
    ⟨none, some 1, .box 3 (.t 0)⟩,
    ⟨none, some 2, .mv (.k (.c (.i 0)))⟩])
 (.seq (.seq (.reg [
     ⟨none, some 5, .ldn 3 (.t 1)⟩,
     ⟨none, some 6, .call n_impl_ReachOk [.t 5]⟩,
     ⟨none, some 7, .not (.t 6)⟩])
  (.cond (.t 7)
   (.seq (.reg [
       ⟨none, some 2, .mv (.k (.c (.i 0)))⟩])
    (.ret))
   (.skip)))
 (.seq (.reg [
    ⟨none, some 9, .fld 0 (.t 1)⟩,
    ⟨none, some 10, .ld1 (.t 9)⟩,
    ⟨none, some 11, .fld 1 (.t 1)⟩,
    ⟨none, some 12, .ld1 (.t 11)⟩,
    ⟨none, some 13, .call n_impl_PlaceOf [.t 10, .t 12]⟩,
    ⟨none, some 8, .mv (.t 13)⟩,
    ⟨none, some 14, .ext 0 (.t 8)⟩,
    ⟨none, some 15, .ext 1 (.t 8)⟩,
    ⟨none, some 3, .mv (.t 14)⟩,
    ⟨none, some 4, .mv (.t 15)⟩])
 (.seq (.seq (.reg [
     ⟨none, some 16, .mv (.t 4)⟩,
     ⟨none, some 17, .not (.t 16)⟩])
  (.cond (.t 17)
   (.seq (.reg [
       ⟨none, some 18, .fld 0 (.t 1)⟩,
       ⟨none, some 19, .ld1 (.t 18)⟩,
       ⟨none, some 20, .fld 0 (.t 1)⟩,
       ⟨none, some 21, .ld1 (.t 20)⟩,
       ⟨none, some 22, .len (.t 21)⟩,
       ⟨none, some 23, .bin .sub (.t 22) (.k (.c (.i 1)))⟩,
       ⟨none, some 24, .idx 2 (.t 19) (.t 23)⟩,
       ⟨none, some 25, .fld 0 (.t 24)⟩,
       ⟨none, some 26, .ld1 (.t 25)⟩,
       ⟨none, some 2, .mv (.t 26)⟩])
    (.ret))
   (.skip)))
 (.seq (.reg [
    ⟨none, some 27, .mv (.t 3)⟩,
    ⟨none, some 2, .mv (.t 27)⟩])
 (.ret)))))
theorem h_impl_LevelOf : Has Try.prog n_impl_LevelOf 28 c_impl_LevelOf [.t 2] := ⟨⟨Try.f143, _, Try.func143, rfl, rfl, by kernel_rfl, by kernel_rfl⟩⟩

def c_laws_eqPointS : SC :=
 .seq (.reg [
    ⟨none, some 4, .mv (.k (.c (.b false)))⟩])
 (.seq (.seq (.reg [
     ⟨none, some 6, .mv (.t 0)⟩,
     ⟨none, some 7, .len (.t 6)⟩,
     ⟨none, some 8, .mv (.t 1)⟩,
     ⟨none, some 9, .len (.t 8)⟩,
     ⟨none, some 10, .bin .neq (.t 7) (.t 9)⟩])
  (.cond (.t 10)
   (.seq (.reg [
       ⟨none, some 4, .mv (.k (.c (.b false)))⟩])
    (.ret))
   (.skip)))
 (.seq (.seq (.reg [
     ⟨none, some 5, .mv (.k (.c (.i 0)))⟩])
  (.block 0 (.loop (.seq (.seq (.reg [
        ⟨none, some 11, .mv (.t 5)⟩,
        ⟨none, some 12, .mv (.t 0)⟩,
        ⟨none, some 13, .len (.t 12)⟩,
        ⟨none, some 14, .bin .lss (.t 11) (.t 13)⟩])
     (.cond (.t 14)
      (.skip)
      (.exit 0)))
    (.seq (.block 1 (.seq (.regq [
         ⟨none, some 17, .mv (.t 0)⟩,
         ⟨none, some 18, .mv (.t 5)⟩,
         ⟨none, some 19, .idx 2 (.t 17) (.t 18)⟩,
         ⟨none, some 20, .ldn 2 (.t 19)⟩,
         ⟨none, some 21, .mv (.t 1)⟩,
         ⟨none, some 22, .mv (.t 5)⟩,
         ⟨none, some 23, .idx 2 (.t 21) (.t 22)⟩,
         ⟨none, some 24, .ldn 2 (.t 23)⟩,
         ⟨none, some 25, .call n_laws_eqPoint [.t 20, .t 24]⟩,
         ⟨none, some 26, .not (.t 25)⟩])
      (.cond (.t 26)
       (.seq (.reg [
           ⟨none, some 4, .mv (.k (.c (.b false)))⟩])
        (.ret))
       (.skip))))
    (.reg [
      ⟨none, some 15, .mv (.t 5)⟩,
      ⟨none, some 16, .bin .add (.t 15) (.k (.c (.i 1)))⟩,
      ⟨none, some 5, .mv (.t 16)⟩]))))))
 (.seq (.reg [
    ⟨none, some 4, .mv (.k (.c (.b true)))⟩])
 (.ret))))
theorem h_laws_eqPointS : Has Try.prog n_laws_eqPointS 27 c_laws_eqPointS [.t 4] := ⟨⟨Try.f144, _, Try.func144, rfl, rfl, by kernel_rfl, by kernel_rfl⟩⟩

def c_spec_LengthOf : SC :=
 .seq (.reg [
    ⟨none, some 1, .box 2 (.t 0)⟩,
    ⟨none, some 2, .mv (.k (.c (.i 0)))⟩])
 (.seq (.reg [
    ⟨none, some 3, .mv (.k (.c (.i 0)))⟩])
 (.seq (.seq (.reg [
     ⟨none, some 4, .mv (.k (.c (.i 0)))⟩])
  (.block 0 (.loop (.seq (.seq (.reg [
        ⟨none, some 7, .mv (.t 4)⟩,
        ⟨none, some 8, .fld 1 (.t 1)⟩,
        ⟨none, some 9, .ld1 (.t 8)⟩,
        ⟨none, some 10, .len (.t 9)⟩,
        ⟨none, some 11, .bin .lss (.t 7) (.t 10)⟩,
        ⟨none, some 12, .mv (.t 11)⟩,
        ⟨some (12, true), some 13, .ldn 2 (.t 1)⟩,
        ⟨some (12, true), some 14, .call n_spec_TrainOk [.t 13]⟩,
        ⟨none, some 15, .pick (.t 12) (.t 14) (.k (.c (.b false)))⟩])
     (.cond (.t 15)
      (.skip)
      (.exit 0)))
    (.seq (.block 1 (.seq (.reg [
         ⟨none, some 5, .mv (.k (.c (.i 0)))⟩])
      (.seq (.seq (.reg [
          ⟨none, some 6, .mv (.k (.c (.i 0)))⟩])
       (.block 2 (.loop (.seq (.seq (.reg [
             ⟨none, some 18, .mv (.t 6)⟩,
             ⟨none, some 19, .fld 1 (.t 1)⟩,
             ⟨none, some 20, .ld1 (.t 19)⟩,
             ⟨none, some 21, .mv (.t 4)⟩,
             ⟨none, some 22, .idx 1 (.t 20) (.t 21)⟩,
             ⟨none, some 23, .ld1 (.t 22)⟩,
             ⟨none, some 24, .len (.t 23)⟩,
             ⟨none, some 25, .bin .lss (.t 18) (.t 24)⟩])
          (.cond (.t 25)
           (.skip)
           (.exit 2)))
         (.seq (.block 3 (.reg [
             ⟨none, some 28, .mv (.t 5)⟩,
             ⟨none, some 29, .fld 1 (.t 1)⟩,
             ⟨none, some 30, .ld1 (.t 29)⟩,
             ⟨none, some 31, .mv (.t 4)⟩,
             ⟨none, some 32, .idx 1 (.t 30) (.t 31)⟩,
             ⟨none, some 33, .ld1 (.t 32)⟩,
             ⟨none, some 34, .mv (.t 6)⟩,
             ⟨none, some 35, .idx 6 (.t 33) (.t 34)⟩,
             ⟨none, some 36, .fld 1 (.t 35)⟩,
             ⟨none, some 37, .ld1 (.t 36)⟩,
             ⟨none, some 38, .mx [.t 28, .t 37]⟩,
             ⟨none, some 5, .mv (.t 38)⟩]))
         (.reg [
           ⟨none, some 26, .mv (.t 6)⟩,
           ⟨none, some 27, .bin .add (.t 26) (.k (.c (.i 1)))⟩,
           ⟨none, some 6, .mv (.t 27)⟩]))))))
      (.reg [
        ⟨none, some 39, .mv (.t 3)⟩,
        ⟨none, some 40, .mv (.t 5)⟩,
        ⟨none, some 41, .bin .add (.t 39) (.t 40)⟩,
        ⟨none, some 3, .mv (.t 41)⟩]))))
    (.reg [
      ⟨none, some 16, .mv (.t 4)⟩,
      ⟨none, some 17, .bin .add (.t 16) (.k (.c (.i 1)))⟩,
      ⟨none, some 4, .mv (.t 17)⟩]))))))
 (.seq (.reg [
    ⟨none, some 42, .mv (.t 3)⟩,
    ⟨none, some 2, .mv (.t 42)⟩])
 (.ret))))
theorem h_spec_LengthOf : Has Try.prog n_spec_LengthOf 43 c_spec_LengthOf [.t 2] := ⟨⟨Try.f145, _, Try.func145, rfl, rfl, by kernel_rfl, by kernel_rfl⟩⟩

end Go.Proofs.Ytenfgllkjgfjpaa
