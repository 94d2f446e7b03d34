/- What the law FnTolls stands on, part 1: contracts of functions, what each answers as plain Lean. -/
import Derived.Test.YtpglolegeidfoaaMA3
import Derived.Test.YtpglolegeidfoaaProg
import Derived.KernelRfl
import Derived.Test.YtpglolegeidfoaaMA4
import Derived.Test.YtpglolegeidfoaaMA8
import Derived.Test.YtpglolegeidfoaaMA6
import Derived.Test.YtpglolegeidfoaaMA7
import Derived.Test.YtpglolegeidfoaaMA9
import Derived.Test.YtpglolegeidfoaaMA10
import Derived.Test.YtpglolegeidfoaaMA13
import Derived.Test.YtpglolegeidfoaaMA11
import Derived.Test.YtpglolegeidfoaaMA5
import Derived.Test.YtpglolegeidfoaaMHead
set_option linter.all false
namespace Go.Proofs.Ytpglolegeidfoaa
open Go.RowKit

abbrev kI (n : Int) : X := .k (.c (.i n))
abbrev kB (b : Bool) : X := .k (.c (.b b))
abbrev iv (d n : Nat) : Ins := ⟨none, some d, .mv (.t n)⟩
abbrev ia (d : Nat) (o : IOp) : Ins := ⟨none, some d, o⟩
abbrev ig (t : Nat) (b : Bool) (d : Nat) (o : IOp) : Ins := ⟨some (t, b), some d, o⟩
abbrev ie (o : IOp) : Ins := ⟨none, none, o⟩
abbrev n_laws_big : Nat := 7
abbrev n_spec_DrawTrain : Nat := 8
abbrev n_laws_at : Nat := 11
abbrev n_spec_l04Train : Nat := 43
abbrev n_spec_l01New : Nat := 44
abbrev n_spec_l01In : Nat := 46
abbrev n_spec_l04Boats : Nat := 52
abbrev n_spec_TrainOk : Nat := 53
abbrev n_impl_IdsOf : Nat := 54
abbrev n_impl_TrainOk : Nat := 58
abbrev n_impl_inRange : Nat := 59
abbrev n_spec_l01Once : Nat := 82
abbrev n_spec_l01Below : Nat := 83
abbrev n_spec_l04Boat : Nat := 84
abbrev n_spec_l01PickInt : Nat := 85
abbrev n_spec_BoatOk : Nat := 90
abbrev n_impl_boatsOf : Nat := 91
abbrev n_impl_BoatOk : Nat := 93
abbrev n_slices_Contains___int_int_ : Nat := 94
abbrev n_spec_l01Byte : Nat := 106
abbrev n_slices_Index___int_int_ : Nat := 109
abbrev n_spec_IdsOf : Nat := 23
abbrev n_impl_ClassOf : Nat := 69
abbrev n_slices_SortStableFunc___int_int_ : Nat := 78
abbrev n_slices_stableCmpFunc_int_ : Nat := 104
abbrev n_slices_insertionSortCmpFunc_int_ : Nat := 113
abbrev n_slices_symMergeCmpFunc_int_ : Nat := 114
abbrev n_laws_FnTolls : Nat := 4
abbrev n_spec_DrawTariff : Nat := 21
abbrev n_impl_TollEntries : Nat := 22
abbrev n_impl_EntryOk : Nat := 24
abbrev n_impl_PostEntries : Nat := 25
abbrev n_spec_DrawBook : Nat := 26
abbrev n_impl_BalancesOf : Nat := 27
abbrev n_impl_TollOf : Nat := 28
abbrev n_impl_TariffOk : Nat := 29
abbrev n_impl_BookOk : Nat := 30
abbrev n_spec_l08Tariff : Nat := 62
abbrev n_impl_ShareOut : Nat := 63
abbrev n_slices_Concat___impl_Entry_impl_Entry_ : Nat := 64
abbrev n_slices_Clone___impl_Entry_impl_Entry_ : Nat := 65
abbrev n_spec_l08Book : Nat := 66
abbrev n_impl_LengthOf : Nat := 67
abbrev n_impl_WidthOf : Nat := 68
abbrev n_impl_ShareOut_1 : Nat := 95
abbrev n_slices_Grow___impl_Entry_impl_Entry_ : Nat := 96
abbrev n_spec_l08Entry : Nat := 97
def c_laws_big : SC := .seq (.reg [ia 2 (.mv (kB false))]) (.seq (.reg [iv 3 0,ia 4 (.len (.t 3)),ia 5 (.bin .gtr (.t 4) (kI 1048576)),iv 2 5]) (.ret))
theorem h_laws_big : Has Try.prog n_laws_big 6 c_laws_big [.t 2] := ⟨by decide, Try.f7, _, Try.func7, rfl, rfl, ⟨none, by kernel_rfl⟩, by kernel_rfl⟩
def c_spec_DrawTrain : SC := .seq (.reg [ia 2 (.alloc [.c (.b false),.nil 1])]) (.seq (.reg [iv 3 0,ia 4 (.call n_spec_l01New [.t 3]),ia 5 (.call n_spec_l04Train [.t 4,kI 1]),ie (.stn 2 (.t 2) (.t 5))]) (.ret))
theorem h_spec_DrawTrain : Has Try.prog n_spec_DrawTrain 6 c_spec_DrawTrain [.cl 2 2] := ⟨by decide, Try.f8, _, Try.func8, rfl, rfl, ⟨none, by kernel_rfl⟩, by kernel_rfl⟩
def c_laws_at : SC := .seq (.reg [ia 4 (.mv (kI 0))]) (.seq (.seq (.reg [iv 5 0,ia 6 (.len (.t 5)),ia 7 (.bin .eql (.t 6) (kI 0))]) (.cond (.t 7) (.seq (.reg [ia 4 (.mv (kI 0))]) (.ret)) (.skip))) (.seq (.reg [iv 8 0,iv 9 1,ia 10 (.bin .mul (.t 9) (kI 5)),ia 11 (.bin .add (.t 10) (kI 1)),iv 12 0,ia 13 (.len (.t 12)),ia 14 (.bin .rem (.t 11) (.t 13)),ia 15 (.idx 1 (.t 8) (.t 14)),ia 16 (.ld1 (.t 15)),ia 17 (.cvt 0 (.t 16)),iv 4 17]) (.ret)))
theorem h_laws_at : Has Try.prog n_laws_at 18 c_laws_at [.t 4] := ⟨by decide, Try.f11, _, Try.func11, rfl, rfl, ⟨none, by kernel_rfl⟩, by kernel_rfl⟩
def c_impl_TollEntries : SC := .seq (.reg [ia 3 (.box 4 (.t 0)),ia 4 (.box 2 (.t 1)),ia 6 (.mv (.k (.nil 5)))]) (.seq (.seq (.reg [ia 11 (.ldn 4 (.t 3)),ia 12 (.call n_impl_TariffOk [.t 11]),ia 13 (.not (.t 12)),iv 14 13,ig 14 false 15 (.ldn 2 (.t 4)),ig 14 false 16 (.call n_impl_TrainOk [.t 15]),ig 14 false 17 (.not (.t 16)),ia 18 (.pick (.t 14) (kB true) (.t 17)),iv 19 18,ig 19 false 20 (.mv (.t 2)),ig 19 false 21 (.call n_impl_inRange [.t 20,kI 0,kI 1000000]),ig 19 false 22 (.not (.t 21)),ia 23 (.pick (.t 19) (kB true) (.t 22))]) (.cond (.t 23) (.seq (.reg [ia 6 (.mv (.k (.nil 5)))]) (.ret)) (.skip))) (.seq (.reg [ia 24 (.ldn 2 (.t 4)),ia 25 (.call n_impl_IdsOf [.t 24]),ia 26 (.idx 1 (.t 25) (kI 0)),ia 27 (.ld1 (.t 26)),iv 7 27]) (.seq (.reg [ia 8 (.mv (.k (.nil 5)))]) (.seq (.seq (.regq [ia 28 (.ldn 4 (.t 3)),ia 29 (.ldn 2 (.t 4)),ia 30 (.call n_impl_TollOf [.t 28,.t 29]),ia 31 (.fld 3 (.t 3)),ia 32 (.ld1 (.t 31)),ia 33 (.call n_impl_ShareOut [.t 30,.t 32]),ia 34 (.len (.t 33)),ia 35 (.mv (kI 0))]) (.block 0 (.loop (.seq (.reg [ia 36 (.bin .lss (.t 35) (.t 34))]) (.seq (.cond (.t 36) (.skip) (.exit 0)) (.seq (.block 1 (.seq (.reg [iv 37 35,ia 38 (.idx 1 (.t 33) (.t 35)),ia 39 (.ld1 (.t 38)),iv 9 37,iv 10 39]) (.seq (.reg [iv 40 10,ia 41 (.bin .gtr (.t 40) (kI 0))]) (.cond (.t 41) (.reg [iv 42 8,iv 43 9,ia 44 (.bin .add (.t 43) (kI 1)),iv 45 10,iv 46 2,iv 47 7,ia 48 (.bld [.c (.i 0),.c (.i 0),.c (.i 0),.c (.i 0),.c (.i 0)] [(0,1,kI 0),(1,1,.t 44),(2,1,.t 45),(3,1,.t 46),(4,1,.t 47)]),ia 49 (.bsl 5 [.t 48]),ia 50 (.app 5 40 (.t 42) (.t 49)),iv 8 50]) (.skip))))) (.reg [ia 51 (.bin .add (.t 35) (kI 1)),iv 35 51]))))))) (.seq (.reg [iv 52 8,iv 6 52]) (.ret))))))
theorem h_impl_TollEntries : Has Try.prog n_impl_TollEntries 53 c_impl_TollEntries [.t 6] := ⟨by decide, Try.f22, _, Try.func22, rfl, rfl, ⟨none, by kernel_rfl⟩, by kernel_rfl⟩
def c_impl_EntryOk : SC := .seq (.reg [ia 1 (.box 5 (.t 0)),ia 2 (.mv (kB false))]) (.seq (.reg [ia 3 (.fld 0 (.t 1)),ia 4 (.ld1 (.t 3)),ia 5 (.fld 1 (.t 1)),ia 6 (.ld1 (.t 5)),ia 7 (.bin .neq (.t 4) (.t 6)),iv 8 7,ig 8 true 9 (.fld 0 (.t 1)),ig 8 true 10 (.ld1 (.t 9)),ig 8 true 11 (.call n_impl_inRange [.t 10,kI 0,kI 11]),ia 12 (.pick (.t 8) (.t 11) (kB false)),iv 13 12,ig 13 true 14 (.fld 1 (.t 1)),ig 13 true 15 (.ld1 (.t 14)),ig 13 true 16 (.call n_impl_inRange [.t 15,kI 0,kI 11]),ia 17 (.pick (.t 13) (.t 16) (kB false)),iv 18 17,ig 18 true 19 (.fld 2 (.t 1)),ig 18 true 20 (.ld1 (.t 19)),ig 18 true 21 (.call n_impl_inRange [.t 20,kI 1,kI 1000000000]),ia 22 (.pick (.t 18) (.t 21) (kB false)),iv 23 22,ig 23 true 24 (.fld 3 (.t 1)),ig 23 true 25 (.ld1 (.t 24)),ig 23 true 26 (.call n_impl_inRange [.t 25,kI 0,kI 1000000]),ia 27 (.pick (.t 23) (.t 26) (kB false)),iv 28 27,ig 28 true 29 (.fld 4 (.t 1)),ig 28 true 30 (.ld1 (.t 29)),ig 28 true 31 (.call n_impl_inRange [.t 30,kI 0,kI 9999]),ia 32 (.pick (.t 28) (.t 31) (kB false)),iv 2 32]) (.ret))
theorem h_impl_EntryOk : Has Try.prog n_impl_EntryOk 33 c_impl_EntryOk [.t 2] := ⟨by decide, Try.f24, _, Try.func24, rfl, rfl, ⟨none, by kernel_rfl⟩, by kernel_rfl⟩
def c_impl_PostEntries : SC := .seq (.reg [ia 4 (.mv (.k (.nil 5))),ia 5 (.mv (kB false))]) (.seq (.seq (.reg [iv 6 0,ia 7 (.call n_impl_BookOk [.t 6]),ia 8 (.not (.t 7)),iv 9 8,ig 9 false 10 (.mv (.t 1)),ig 9 false 11 (.len (.t 10)),ig 9 false 12 (.bin .gtr (.t 11) (kI 2000)),ia 13 (.pick (.t 9) (kB true) (.t 12)),iv 14 13,ig 14 false 15 (.mv (.t 0)),ig 14 false 16 (.mv (.t 1)),ig 14 false 17 (.bsl 1 [.t 15,.t 16]),ig 14 false 18 (.call n_slices_Concat___impl_Entry_impl_Entry_ [.t 17]),ig 14 false 19 (.call n_impl_BookOk [.t 18]),ig 14 false 20 (.not (.t 19)),ia 21 (.pick (.t 14) (kB true) (.t 20))]) (.cond (.t 21) (.seq (.reg [iv 22 0,ia 23 (.call n_slices_Clone___impl_Entry_impl_Entry_ [.t 22]),iv 4 23,ia 5 (.mv (kB false))]) (.ret)) (.skip))) (.seq (.reg [iv 24 0,iv 25 1,ia 26 (.bsl 1 [.t 24,.t 25]),ia 27 (.call n_slices_Concat___impl_Entry_impl_Entry_ [.t 26]),iv 4 27,ia 5 (.mv (kB true))]) (.ret)))
theorem h_impl_PostEntries : Has Try.prog n_impl_PostEntries 28 c_impl_PostEntries [.t 4, .t 5] := ⟨by decide, Try.f25, _, Try.func25, rfl, rfl, ⟨none, by kernel_rfl⟩, by kernel_rfl⟩
def c_spec_DrawBook : SC := .seq (.reg [ia 2 (.mv (.k (.nil 5)))]) (.seq (.reg [iv 3 0,ia 4 (.call n_spec_l01New [.t 3]),ia 5 (.call n_spec_l08Book [.t 4]),iv 2 5]) (.ret))
theorem h_spec_DrawBook : Has Try.prog n_spec_DrawBook 6 c_spec_DrawBook [.t 2] := ⟨by decide, Try.f26, _, Try.func26, rfl, rfl, ⟨none, by kernel_rfl⟩, by kernel_rfl⟩
def c_impl_BalancesOf : SC := .seq (.reg [ia 2 (.mv (.k (.nil 1)))]) (.seq (.seq (.reg [iv 6 0,ia 7 (.call n_impl_BookOk [.t 6]),ia 8 (.not (.t 7))]) (.cond (.t 8) (.seq (.reg [ia 2 (.mv (.k (.nil 1)))]) (.ret)) (.skip))) (.seq (.reg [ia 9 (.mks 1 8 [.i 0] (kI 12) (kI 12)),iv 3 9]) (.seq (.seq (.reg [iv 10 0,ia 11 (.len (.t 10)),ia 12 (.mv (kI 0))]) (.block 0 (.loop (.seq (.reg [ia 13 (.bin .lss (.t 12) (.t 11))]) (.seq (.cond (.t 13) (.skip) (.exit 0)) (.seq (.block 1 (.seq (.reg [ia 14 (.idx 5 (.t 10) (.t 12)),ia 15 (.ldn 5 (.t 14)),ia 5 (.alloc [.c (.i 0),.c (.i 0),.c (.i 0),.c (.i 0),.c (.i 0)]),ie (.stn 5 (.t 5) (.t 15))]) (.seq (.rege [⟨0,false,[],iv 16 3⟩,⟨0,false,[],ia 17 (.fld 0 (.t 5))⟩,⟨0,false,[],ia 18 (.ld1 (.t 17))⟩,⟨0,false,[],ia 19 (.idx 1 (.t 16) (.t 18))⟩,⟨0,false,[],ia 20 (.ld1 (.t 19))⟩,⟨0,false,[],ia 21 (.fld 2 (.t 5))⟩,⟨0,false,[],ia 22 (.ld1 (.t 21))⟩,⟨0,false,[],ia 23 (.bin .sub (.t 20) (.t 22))⟩,⟨0,false,[],ia 24 (.idx 1 (.t 16) (.t 18))⟩,⟨2,false,[],ie (.st1 (.t 24) (.t 23))⟩]) (.rege [⟨0,false,[],iv 25 3⟩,⟨0,false,[],ia 26 (.fld 1 (.t 5))⟩,⟨0,false,[],ia 27 (.ld1 (.t 26))⟩,⟨0,false,[],ia 28 (.idx 1 (.t 25) (.t 27))⟩,⟨0,false,[],ia 29 (.ld1 (.t 28))⟩,⟨0,false,[],ia 30 (.fld 2 (.t 5))⟩,⟨0,false,[],ia 31 (.ld1 (.t 30))⟩,⟨0,false,[],ia 32 (.bin .add (.t 29) (.t 31))⟩,⟨0,false,[],ia 33 (.idx 1 (.t 25) (.t 27))⟩,⟨2,false,[],ie (.st1 (.t 33) (.t 32))⟩])))) (.reg [ia 34 (.bin .add (.t 12) (kI 1)),iv 12 34]))))))) (.seq (.reg [iv 35 3,iv 2 35]) (.ret)))))
theorem h_impl_BalancesOf : Has Try.prog n_impl_BalancesOf 36 c_impl_BalancesOf [.t 2] := ⟨by decide, Try.f27, _, Try.func27, rfl, rfl, ⟨none, by kernel_rfl⟩, by kernel_rfl⟩
def c_impl_TollOf : SC := .seq (.reg [ia 2 (.box 4 (.t 0)),ia 3 (.box 2 (.t 1)),ia 4 (.mv (kI 0))]) (.seq (.seq (.reg [ia 5 (.ldn 4 (.t 2)),ia 6 (.call n_impl_TariffOk [.t 5]),ia 7 (.not (.t 6)),iv 8 7,ig 8 false 9 (.ldn 2 (.t 3)),ig 8 false 10 (.call n_impl_TrainOk [.t 9]),ig 8 false 11 (.not (.t 10)),ia 12 (.pick (.t 8) (kB true) (.t 11))]) (.cond (.t 12) (.seq (.reg [ia 4 (.mv (kI 0))]) (.ret)) (.skip))) (.seq (.regq [ia 13 (.fld 0 (.t 2)),ia 14 (.ld1 (.t 13)),ia 15 (.fld 1 (.t 2)),ia 16 (.ld1 (.t 15)),ia 17 (.ldn 2 (.t 3)),ia 18 (.call n_impl_LengthOf [.t 17]),ia 19 (.bin .mul (.t 16) (.t 18)),ia 20 (.ldn 2 (.t 3)),ia 21 (.call n_impl_WidthOf [.t 20]),ia 22 (.bin .mul (.t 19) (.t 21)),ia 23 (.bin .quo (.t 22) (kI 100)),ia 24 (.bin .add (.t 14) (.t 23)),ia 25 (.fld 2 (.t 2)),ia 26 (.ld1 (.t 25)),ia 27 (.ldn 2 (.t 3)),ia 28 (.call n_impl_ClassOf [.t 27]),ia 29 (.idx 1 (.t 26) (.t 28)),ia 30 (.ld1 (.t 29)),ia 31 (.bin .add (.t 24) (.t 30)),iv 4 31]) (.ret)))
theorem h_impl_TollOf : Has Try.prog n_impl_TollOf 32 c_impl_TollOf [.t 4] := ⟨by decide, Try.f28, _, Try.func28, rfl, rfl, ⟨none, by kernel_rfl⟩, by kernel_rfl⟩
def c_impl_TariffOk : SC := .seq (.reg [ia 1 (.box 4 (.t 0)),ia 2 (.mv (kB false))]) (.seq (.seq (.reg [ia 8 (.fld 0 (.t 1)),ia 9 (.ld1 (.t 8)),ia 10 (.call n_impl_inRange [.t 9,kI 0,kI 10000]),ia 11 (.not (.t 10)),iv 12 11,ig 12 false 13 (.fld 1 (.t 1)),ig 12 false 14 (.ld1 (.t 13)),ig 12 false 15 (.call n_impl_inRange [.t 14,kI 0,kI 100]),ig 12 false 16 (.not (.t 15)),ia 17 (.pick (.t 12) (kB true) (.t 16)),iv 18 17,ig 18 false 19 (.fld 2 (.t 1)),ig 18 false 20 (.ld1 (.t 19)),ig 18 false 21 (.len (.t 20)),ig 18 false 22 (.bin .neq (.t 21) (kI 3)),ia 23 (.pick (.t 18) (kB true) (.t 22)),iv 24 23,ig 24 false 25 (.fld 3 (.t 1)),ig 24 false 26 (.ld1 (.t 25)),ig 24 false 27 (.len (.t 26)),ig 24 false 28 (.bin .lss (.t 27) (kI 1)),ia 29 (.pick (.t 24) (kB true) (.t 28)),iv 30 29,ig 30 false 31 (.fld 3 (.t 1)),ig 30 false 32 (.ld1 (.t 31)),ig 30 false 33 (.len (.t 32)),ig 30 false 34 (.bin .gtr (.t 33) (kI 11)),ia 35 (.pick (.t 30) (kB true) (.t 34))]) (.cond (.t 35) (.seq (.reg [ia 2 (.mv (kB false))]) (.ret)) (.skip))) (.seq (.seq (.reg [ia 36 (.fld 2 (.t 1)),ia 37 (.ld1 (.t 36)),ia 38 (.len (.t 37)),ia 39 (.mv (kI 0))]) (.block 0 (.loop (.seq (.reg [ia 40 (.bin .lss (.t 39) (.t 38))]) (.seq (.cond (.t 40) (.skip) (.exit 0)) (.seq (.block 1 (.seq (.reg [ia 41 (.idx 1 (.t 37) (.t 39)),ia 42 (.ld1 (.t 41)),iv 4 42]) (.seq (.reg [iv 43 4,ia 44 (.call n_impl_inRange [.t 43,kI 0,kI 10000]),ia 45 (.not (.t 44))]) (.cond (.t 45) (.seq (.reg [ia 2 (.mv (kB false))]) (.ret)) (.skip))))) (.reg [ia 46 (.bin .add (.t 39) (kI 1)),iv 39 46]))))))) (.seq (.reg [ia 5 (.mv (kI 0))]) (.seq (.seq (.reg [ia 47 (.fld 3 (.t 1)),ia 48 (.ld1 (.t 47)),ia 49 (.len (.t 48)),ia 50 (.mv (kI 0))]) (.block 2 (.loop (.seq (.reg [ia 51 (.bin .lss (.t 50) (.t 49))]) (.seq (.cond (.t 51) (.skip) (.exit 2)) (.seq (.block 3 (.seq (.reg [ia 52 (.idx 1 (.t 48) (.t 50)),ia 53 (.ld1 (.t 52)),iv 7 53]) (.seq (.seq (.reg [iv 54 7,ia 55 (.call n_impl_inRange [.t 54,kI 0,kI 1000]),ia 56 (.not (.t 55))]) (.cond (.t 56) (.seq (.reg [ia 2 (.mv (kB false))]) (.ret)) (.skip))) (.reg [iv 57 5,iv 58 7,ia 59 (.bin .add (.t 57) (.t 58)),iv 5 59])))) (.reg [ia 60 (.bin .add (.t 50) (kI 1)),iv 50 60]))))))) (.seq (.reg [iv 61 5,ia 62 (.bin .gtr (.t 61) (kI 0)),iv 2 62]) (.ret))))))
theorem h_impl_TariffOk : Has Try.prog n_impl_TariffOk 63 c_impl_TariffOk [.t 2] := ⟨by decide, Try.f29, _, Try.func29, rfl, rfl, ⟨none, by kernel_rfl⟩, by kernel_rfl⟩
def c_impl_BookOk : SC := .seq (.reg [ia 2 (.mv (kB false))]) (.seq (.seq (.reg [iv 5 0,ia 6 (.len (.t 5)),ia 7 (.bin .gtr (.t 6) (kI 2000))]) (.cond (.t 7) (.seq (.reg [ia 2 (.mv (kB false))]) (.ret)) (.skip))) (.seq (.seq (.reg [iv 8 0,ia 9 (.len (.t 8)),ia 10 (.mv (kI 0))]) (.block 0 (.loop (.seq (.reg [ia 11 (.bin .lss (.t 10) (.t 9))]) (.seq (.cond (.t 11) (.skip) (.exit 0)) (.seq (.block 1 (.seq (.reg [ia 12 (.idx 5 (.t 8) (.t 10)),ia 13 (.ldn 5 (.t 12)),ia 4 (.alloc [.c (.i 0),.c (.i 0),.c (.i 0),.c (.i 0),.c (.i 0)]),ie (.stn 5 (.t 4) (.t 13))]) (.seq (.reg [ia 14 (.ldn 5 (.t 4)),ia 15 (.call n_impl_EntryOk [.t 14]),ia 16 (.not (.t 15))]) (.cond (.t 16) (.seq (.reg [ia 2 (.mv (kB false))]) (.ret)) (.skip))))) (.reg [ia 17 (.bin .add (.t 10) (kI 1)),iv 10 17]))))))) (.seq (.reg [ia 2 (.mv (kB true))]) (.ret))))
theorem h_impl_BookOk : Has Try.prog n_impl_BookOk 18 c_impl_BookOk [.t 2] := ⟨by decide, Try.f30, _, Try.func30, rfl, rfl, ⟨none, by kernel_rfl⟩, by kernel_rfl⟩
def c_spec_l08Tariff : SC := .seq (.reg [ia 2 (.alloc [.c (.i 0),.c (.i 0),.nil 1,.nil 1])]) (.seq (.reg [iv 5 0,ia 6 (.call n_spec_l01Below [.t 5,kI 50]),iv 7 0,ia 8 (.call n_spec_l01Below [.t 7,kI 20]),iv 9 0,ia 10 (.call n_spec_l01Below [.t 9,kI 9]),iv 11 0,ia 12 (.call n_spec_l01Below [.t 11,kI 30]),ia 13 (.bsl 1 [.t 10,.t 12,kI 0]),ia 14 (.bld [.c (.i 0),.c (.i 0),.nil 1,.nil 1] [(0,1,.t 6),(1,1,.t 8),(2,1,.t 13)]),ia 3 (.alloc [.c (.i 0),.c (.i 0),.nil 1,.nil 1]),ie (.stn 4 (.t 3) (.t 14))]) (.seq (.seq (.reg [iv 15 0,ia 16 (.call n_spec_l01Below [.t 15,kI 4]),ia 17 (.bin .add (kI 1) (.t 16)),iv 4 17]) (.block 0 (.loop (.seq (.seq (.reg [iv 18 4,ia 19 (.bin .gtr (.t 18) (kI 0))]) (.cond (.t 19) (.skip) (.exit 0))) (.seq (.block 1 (.rege [⟨0,true,[],ia 22 (.fld 3 (.t 3))⟩,⟨0,true,[],ia 23 (.ld1 (.t 22))⟩,⟨0,false,[],iv 24 0⟩,⟨1,false,[],ia 25 (.bsl 1 [kI 1,kI 2,kI 3,kI 7,kI 0])⟩,⟨2,false,[0,1],ia 26 (.call n_spec_l01PickInt [.t 24,.t 25])⟩,⟨1,false,[],ia 27 (.bsl 1 [.t 26])⟩,⟨2,false,[],ia 28 (.app 1 8 (.t 23) (.t 27))⟩,⟨0,false,[],ia 29 (.fld 3 (.t 3))⟩,⟨2,false,[],ie (.st1 (.t 29) (.t 28))⟩])) (.reg [iv 20 4,ia 21 (.bin .sub (.t 20) (kI 1)),iv 4 21])))))) (.seq (.rege [⟨0,false,[],ia 30 (.fld 3 (.t 3))⟩,⟨0,false,[],ia 31 (.ld1 (.t 30))⟩,⟨0,false,[],ia 32 (.fld 3 (.t 3))⟩,⟨0,false,[],ia 33 (.ld1 (.t 32))⟩,⟨0,false,[],ia 34 (.idx 1 (.t 33) (kI 0))⟩,⟨0,false,[],ia 35 (.ld1 (.t 34))⟩,⟨0,false,[],ia 36 (.bin .add (.t 35) (kI 1))⟩,⟨0,false,[],ia 37 (.idx 1 (.t 31) (kI 0))⟩,⟨2,false,[],ie (.st1 (.t 37) (.t 36))⟩]) (.seq (.reg [ia 38 (.ldn 4 (.t 3)),ie (.stn 4 (.t 2) (.t 38))]) (.ret)))))
theorem h_spec_l08Tariff : Has Try.prog n_spec_l08Tariff 39 c_spec_l08Tariff [.cl 2 4] := ⟨by decide, Try.f62, _, Try.func62, rfl, rfl, ⟨(some [85, 83]), by kernel_rfl⟩, by kernel_rfl⟩
def c_impl_ShareOut : SC := .seq (.reg [ia 2 (.box 1 (.t 0)),ia 3 (.box 1 (.t 1)),ia 4 (.mv (.k (.nil 1)))]) (.seq (.seq (.reg [ia 14 (.ld1 (.t 2)),ia 15 (.call n_impl_inRange [.t 14,kI 0,kI 1000000000]),ia 16 (.not (.t 15)),iv 17 16,ig 17 false 18 (.ld1 (.t 3)),ig 17 false 19 (.len (.t 18)),ig 17 false 20 (.bin .lss (.t 19) (kI 1)),ia 21 (.pick (.t 17) (kB true) (.t 20)),iv 22 21,ig 22 false 23 (.ld1 (.t 3)),ig 22 false 24 (.len (.t 23)),ig 22 false 25 (.bin .gtr (.t 24) (kI 12)),ia 26 (.pick (.t 22) (kB true) (.t 25))]) (.cond (.t 26) (.seq (.reg [ia 4 (.mv (.k (.nil 1)))]) (.ret)) (.skip))) (.seq (.reg [ia 5 (.alloc [.c (.i 0)]),ie (.st1 (.t 5) (kI 0))]) (.seq (.seq (.reg [ia 27 (.ld1 (.t 3)),ia 28 (.len (.t 27)),ia 29 (.mv (kI 0))]) (.block 0 (.loop (.seq (.reg [ia 30 (.bin .lss (.t 29) (.t 28))]) (.seq (.cond (.t 30) (.skip) (.exit 0)) (.seq (.block 1 (.seq (.reg [ia 31 (.idx 1 (.t 27) (.t 29)),ia 32 (.ld1 (.t 31)),iv 7 32]) (.seq (.seq (.reg [iv 33 7,ia 34 (.call n_impl_inRange [.t 33,kI 0,kI 1000000]),ia 35 (.not (.t 34))]) (.cond (.t 35) (.seq (.reg [ia 4 (.mv (.k (.nil 1)))]) (.ret)) (.skip))) (.reg [ia 36 (.ld1 (.t 5)),iv 37 7,ia 38 (.bin .add (.t 36) (.t 37)),ie (.st1 (.t 5) (.t 38))])))) (.reg [ia 39 (.bin .add (.t 29) (kI 1)),iv 29 39]))))))) (.seq (.seq (.reg [ia 40 (.ld1 (.t 5)),ia 41 (.bin .eql (.t 40) (kI 0))]) (.cond (.t 41) (.seq (.reg [ia 4 (.mv (.k (.nil 1)))]) (.ret)) (.skip))) (.seq (.reg [ia 42 (.ld1 (.t 3)),ia 43 (.len (.t 42)),ia 44 (.mks 1 8 [.i 0] (.t 43) (.t 43)),iv 8 44]) (.seq (.reg [ia 45 (.ld1 (.t 3)),ia 46 (.len (.t 45)),ia 47 (.mks 1 8 [.i 0] (.t 46) (.t 46)),iv 9 47]) (.seq (.reg [ia 48 (.ld1 (.t 2)),iv 10 48]) (.seq (.seq (.reg [ia 49 (.ld1 (.t 3)),ia 50 (.len (.t 49)),ia 51 (.mv (kI 0))]) (.block 2 (.loop (.seq (.reg [ia 52 (.bin .lss (.t 51) (.t 50))]) (.seq (.cond (.t 52) (.skip) (.exit 2)) (.seq (.block 3 (.seq (.reg [iv 53 51,ia 54 (.idx 1 (.t 49) (.t 51)),ia 55 (.ld1 (.t 54)),iv 11 53,iv 12 55]) (.seq (.reg [iv 56 8,iv 57 11,ia 58 (.ld1 (.t 2)),iv 59 12,ia 60 (.bin .mul (.t 58) (.t 59)),ia 61 (.ld1 (.t 5)),ia 62 (.bin .quo (.t 60) (.t 61)),ia 63 (.idx 1 (.t 56) (.t 57)),ie (.st1 (.t 63) (.t 62))]) (.seq (.reg [iv 64 10,iv 65 8,iv 66 11,ia 67 (.idx 1 (.t 65) (.t 66)),ia 68 (.ld1 (.t 67)),ia 69 (.bin .sub (.t 64) (.t 68)),iv 10 69]) (.reg [iv 70 9,iv 71 11,iv 72 11,ia 73 (.idx 1 (.t 70) (.t 71)),ie (.st1 (.t 73) (.t 72))]))))) (.reg [ia 74 (.bin .add (.t 51) (kI 1)),iv 51 74]))))))) (.seq (.reg [iv 75 9,ia 76 (.mkf n_impl_ShareOut_1 [.t 2,.t 3,.t 5]),ia 77 (.call n_slices_SortStableFunc___int_int_ [.t 75,.t 76])]) (.seq (.seq (.reg [ia 13 (.mv (kI 0))]) (.block 4 (.loop (.seq (.seq (.reg [iv 78 13,iv 79 10,ia 80 (.bin .lss (.t 78) (.t 79))]) (.cond (.t 80) (.skip) (.exit 4))) (.seq (.block 5 (.reg [iv 83 8,iv 84 9,iv 85 13,ia 86 (.idx 1 (.t 84) (.t 85)),ia 87 (.ld1 (.t 86)),ia 88 (.idx 1 (.t 83) (.t 87)),ia 89 (.ld1 (.t 88)),ia 90 (.bin .add (.t 89) (kI 1)),ia 91 (.idx 1 (.t 83) (.t 87)),ie (.st1 (.t 91) (.t 90))])) (.reg [iv 81 13,ia 82 (.bin .add (.t 81) (kI 1)),iv 13 82])))))) (.seq (.reg [iv 92 8,iv 4 92]) (.ret))))))))))))
theorem h_impl_ShareOut : Has Try.prog n_impl_ShareOut 93 c_impl_ShareOut [.t 4] := ⟨by decide, Try.f63, _, Try.func63, rfl, rfl, ⟨none, by kernel_rfl⟩, by kernel_rfl⟩
def c_slices_Concat___impl_Entry_impl_Entry_ : SC := .seq (.reg [ia 2 (.mv (.k (.nil 5)))]) (.seq (.reg [ia 3 (.mv (kI 0))]) (.seq (.seq (.reg [iv 9 0,ia 10 (.len (.t 9)),ia 11 (.mv (kI 0))]) (.block 0 (.loop (.seq (.reg [ia 12 (.bin .lss (.t 11) (.t 10))]) (.seq (.cond (.t 12) (.skip) (.exit 0)) (.seq (.block 1 (.seq (.reg [ia 13 (.idx 1 (.t 9) (.t 11)),ia 14 (.ld1 (.t 13)),iv 5 14]) (.seq (.reg [iv 15 3,iv 16 5,ia 17 (.len (.t 16)),ia 18 (.bin .add (.t 15) (.t 17)),iv 3 18]) (.seq (.reg [iv 19 3,ia 20 (.bin .lss (.t 19) (kI 0))]) (.cond (.t 20) (.reg [ia 21 (.bad),ie (.bad)]) (.skip)))))) (.reg [ia 22 (.bin .add (.t 11) (kI 1)),iv 11 22]))))))) (.seq (.reg [iv 23 3,ia 24 (.call n_slices_Grow___impl_Entry_impl_Entry_ [.k (.nil 5),.t 23]),iv 6 24]) (.seq (.seq (.reg [iv 25 0,ia 26 (.len (.t 25)),ia 27 (.mv (kI 0))]) (.block 2 (.loop (.seq (.reg [ia 28 (.bin .lss (.t 27) (.t 26))]) (.seq (.cond (.t 28) (.skip) (.exit 2)) (.seq (.block 3 (.seq (.reg [ia 29 (.idx 1 (.t 25) (.t 27)),ia 30 (.ld1 (.t 29)),iv 8 30]) (.reg [iv 31 6,iv 32 8,ia 33 (.app 5 40 (.t 31) (.t 32)),iv 6 33]))) (.reg [ia 34 (.bin .add (.t 27) (kI 1)),iv 27 34]))))))) (.seq (.reg [iv 35 6,iv 2 35]) (.ret))))))
theorem h_slices_Concat___impl_Entry_impl_Entry_ : Has Try.prog n_slices_Concat___impl_Entry_impl_Entry_ 36 c_slices_Concat___impl_Entry_impl_Entry_ [.t 2] := ⟨by decide, Try.f64, _, Try.func64, rfl, rfl, ⟨none, by kernel_rfl⟩, by kernel_rfl⟩
def c_slices_Clone___impl_Entry_impl_Entry_ : SC := .seq (.reg [ia 2 (.mv (.k (.nil 5)))]) (.seq (.seq (.reg [iv 3 0,ia 4 (.isn (.t 3))]) (.cond (.t 4) (.seq (.reg [ia 2 (.mv (.k (.nil 5)))]) (.ret)) (.skip))) (.seq (.reg [ia 5 (.bsl 5 []),iv 6 0,ia 7 (.app 5 40 (.t 5) (.t 6)),iv 2 7]) (.ret)))
theorem h_slices_Clone___impl_Entry_impl_Entry_ : Has Try.prog n_slices_Clone___impl_Entry_impl_Entry_ 8 c_slices_Clone___impl_Entry_impl_Entry_ [.t 2] := ⟨by decide, Try.f65, _, Try.func65, rfl, rfl, ⟨none, by kernel_rfl⟩, by kernel_rfl⟩
def c_spec_l08Book : SC := .seq (.reg [ia 2 (.mv (.k (.nil 5)))]) (.seq (.reg [ia 5 (.bsl 5 []),iv 3 5]) (.seq (.seq (.reg [iv 6 0,ia 7 (.call n_spec_l01Below [.t 6,kI 9]),iv 4 7]) (.block 0 (.loop (.seq (.seq (.reg [iv 8 4,ia 9 (.bin .gtr (.t 8) (kI 0))]) (.cond (.t 9) (.skip) (.exit 0))) (.seq (.block 1 (.reg [iv 12 3,iv 13 0,ia 14 (.call n_spec_l08Entry [.t 13]),ia 15 (.bsl 5 [.t 14]),ia 16 (.app 5 40 (.t 12) (.t 15)),iv 3 16])) (.reg [iv 10 4,ia 11 (.bin .sub (.t 10) (kI 1)),iv 4 11])))))) (.seq (.reg [iv 17 3,iv 2 17]) (.ret))))
theorem h_spec_l08Book : Has Try.prog n_spec_l08Book 18 c_spec_l08Book [.t 2] := ⟨by decide, Try.f66, _, Try.func66, rfl, rfl, ⟨none, by kernel_rfl⟩, by kernel_rfl⟩
def c_impl_LengthOf : SC := .seq (.reg [ia 1 (.box 2 (.t 0)),ia 2 (.mv (kI 0))]) (.seq (.seq (.reg [ia 9 (.ldn 2 (.t 1)),ia 10 (.call n_impl_TrainOk [.t 9]),ia 11 (.not (.t 10))]) (.cond (.t 11) (.seq (.reg [ia 2 (.mv (kI 0))]) (.ret)) (.skip))) (.seq (.reg [ia 3 (.mv (kI 0))]) (.seq (.seq (.reg [ia 12 (.fld 1 (.t 1)),ia 13 (.ld1 (.t 12)),ia 14 (.len (.t 13)),ia 15 (.mv (kI 0))]) (.block 0 (.loop (.seq (.reg [ia 16 (.bin .lss (.t 15) (.t 14))]) (.seq (.cond (.t 16) (.skip) (.exit 0)) (.seq (.block 1 (.seq (.reg [ia 17 (.idx 1 (.t 13) (.t 15)),ia 18 (.ld1 (.t 17)),iv 5 18]) (.seq (.reg [ia 6 (.mv (kI 0))]) (.seq (.seq (.reg [iv 19 5,ia 20 (.len (.t 19)),ia 21 (.mv (kI 0))]) (.block 2 (.loop (.seq (.reg [ia 22 (.bin .lss (.t 21) (.t 20))]) (.seq (.cond (.t 22) (.skip) (.exit 2)) (.seq (.block 3 (.seq (.reg [ia 23 (.idx 6 (.t 19) (.t 21)),ia 24 (.ldn 6 (.t 23)),ia 8 (.alloc [.c (.i 0),.c (.i 0),.c (.i 0),.c (.i 0),.c (.i 0),.c (.i 0)]),ie (.stn 6 (.t 8) (.t 24))]) (.reg [iv 25 6,ia 26 (.fld 1 (.t 8)),ia 27 (.ld1 (.t 26)),ia 28 (.mx [.t 25,.t 27]),iv 6 28]))) (.reg [ia 29 (.bin .add (.t 21) (kI 1)),iv 21 29]))))))) (.reg [iv 30 3,iv 31 6,ia 32 (.bin .add (.t 30) (.t 31)),iv 3 32]))))) (.reg [ia 33 (.bin .add (.t 15) (kI 1)),iv 15 33]))))))) (.seq (.reg [iv 34 3,iv 2 34]) (.ret)))))
theorem h_impl_LengthOf : Has Try.prog n_impl_LengthOf 35 c_impl_LengthOf [.t 2] := ⟨by decide, Try.f67, _, Try.func67, rfl, rfl, ⟨none, by kernel_rfl⟩, by kernel_rfl⟩
def c_impl_WidthOf : SC := .seq (.reg [ia 1 (.box 2 (.t 0)),ia 2 (.mv (kI 0))]) (.seq (.seq (.reg [ia 9 (.ldn 2 (.t 1)),ia 10 (.call n_impl_TrainOk [.t 9]),ia 11 (.not (.t 10))]) (.cond (.t 11) (.seq (.reg [ia 2 (.mv (kI 0))]) (.ret)) (.skip))) (.seq (.reg [ia 3 (.mv (kI 0))]) (.seq (.seq (.reg [ia 12 (.fld 1 (.t 1)),ia 13 (.ld1 (.t 12)),ia 14 (.len (.t 13)),ia 15 (.mv (kI 0))]) (.block 0 (.loop (.seq (.reg [ia 16 (.bin .lss (.t 15) (.t 14))]) (.seq (.cond (.t 16) (.skip) (.exit 0)) (.seq (.block 1 (.seq (.reg [ia 17 (.idx 1 (.t 13) (.t 15)),ia 18 (.ld1 (.t 17)),iv 5 18]) (.seq (.reg [ia 6 (.mv (kI 0))]) (.seq (.seq (.reg [iv 19 5,ia 20 (.len (.t 19)),ia 21 (.mv (kI 0))]) (.block 2 (.loop (.seq (.reg [ia 22 (.bin .lss (.t 21) (.t 20))]) (.seq (.cond (.t 22) (.skip) (.exit 2)) (.seq (.block 3 (.seq (.reg [ia 23 (.idx 6 (.t 19) (.t 21)),ia 24 (.ldn 6 (.t 23)),ia 8 (.alloc [.c (.i 0),.c (.i 0),.c (.i 0),.c (.i 0),.c (.i 0),.c (.i 0)]),ie (.stn 6 (.t 8) (.t 24))]) (.reg [iv 25 6,ia 26 (.fld 2 (.t 8)),ia 27 (.ld1 (.t 26)),ia 28 (.bin .add (.t 25) (.t 27)),iv 6 28]))) (.reg [ia 29 (.bin .add (.t 21) (kI 1)),iv 21 29]))))))) (.reg [iv 30 3,iv 31 6,ia 32 (.mx [.t 30,.t 31]),iv 3 32]))))) (.reg [ia 33 (.bin .add (.t 15) (kI 1)),iv 15 33]))))))) (.seq (.reg [iv 34 3,iv 2 34]) (.ret)))))
theorem h_impl_WidthOf : Has Try.prog n_impl_WidthOf 35 c_impl_WidthOf [.t 2] := ⟨by decide, Try.f68, _, Try.func68, rfl, rfl, ⟨none, by kernel_rfl⟩, by kernel_rfl⟩
def c_impl_ShareOut_1 : SC := .seq (.reg [ia 7 (.mv (kI 0))]) (.seq (.regq [ia 8 (.ld1 (.t 2)),ia 9 (.ld1 (.t 3)),iv 10 1,ia 11 (.idx 1 (.t 9) (.t 10)),ia 12 (.ld1 (.t 11)),ia 13 (.bin .mul (.t 8) (.t 12)),ia 14 (.ld1 (.t 4)),ia 15 (.bin .rem (.t 13) (.t 14)),ia 16 (.ld1 (.t 2)),ia 17 (.ld1 (.t 3)),iv 18 0,ia 19 (.idx 1 (.t 17) (.t 18)),ia 20 (.ld1 (.t 19)),ia 21 (.bin .mul (.t 16) (.t 20)),ia 22 (.ld1 (.t 4)),ia 23 (.bin .rem (.t 21) (.t 22)),ia 24 (.bin .sub (.t 15) (.t 23)),iv 7 24]) (.ret))
theorem h_impl_ShareOut_1 : Has Try.prog n_impl_ShareOut_1 25 c_impl_ShareOut_1 [.t 7] := ⟨by decide, Try.f95, _, Try.func95, rfl, rfl, ⟨none, by kernel_rfl⟩, by kernel_rfl⟩
def c_slices_Grow___impl_Entry_impl_Entry_ : SC := .seq (.reg [ia 4 (.mv (.k (.nil 5)))]) (.seq (.seq (.reg [iv 5 1,ia 6 (.bin .lss (.t 5) (kI 0))]) (.cond (.t 6) (.reg [ia 7 (.bad),ie (.bad)]) (.skip))) (.seq (.seq (.reg [iv 8 1,iv 9 0,ia 10 (.cap (.t 9)),iv 11 0,ia 12 (.len (.t 11)),ia 13 (.bin .sub (.t 10) (.t 12)),ia 14 (.bin .sub (.t 8) (.t 13)),iv 1 14]) (.seq (.reg [iv 15 1,ia 16 (.bin .gtr (.t 15) (kI 0))]) (.cond (.t 16) (.reg [iv 17 0,iv 18 0,ia 19 (.cap (.t 18)),ia 20 (.slc 5 (.t 17) none (some (.t 19)) none),iv 21 1,ia 22 (.appz 5 40 [.i 0,.i 0,.i 0,.i 0,.i 0] (.t 20) (.t 21)),iv 23 0,ia 24 (.len (.t 23)),ia 25 (.slc 5 (.t 22) none (some (.t 24)) none),iv 0 25]) (.skip)))) (.seq (.reg [iv 26 0,iv 4 26]) (.ret))))
theorem h_slices_Grow___impl_Entry_impl_Entry_ : Has Try.prog n_slices_Grow___impl_Entry_impl_Entry_ 27 c_slices_Grow___impl_Entry_impl_Entry_ [.t 4] := ⟨by decide, Try.f96, _, Try.func96, rfl, rfl, ⟨none, by kernel_rfl⟩, by kernel_rfl⟩
def c_spec_l08Entry : SC := .seq (.reg [ia 2 (.alloc [.c (.i 0),.c (.i 0),.c (.i 0),.c (.i 0),.c (.i 0)])]) (.seq (.reg [iv 4 0,ia 5 (.call n_spec_l01Below [.t 4,kI 12]),iv 3 5]) (.seq (.reg [iv 6 3,iv 7 3,ia 8 (.bin .add (.t 7) (kI 1)),iv 9 0,ia 10 (.call n_spec_l01Below [.t 9,kI 5]),ia 11 (.bin .add (.t 8) (.t 10)),ia 12 (.bin .rem (.t 11) (kI 12)),iv 13 0,ia 14 (.call n_spec_l01Below [.t 13,kI 500]),ia 15 (.bin .add (kI 1) (.t 14)),iv 16 0,ia 17 (.call n_spec_l01Below [.t 16,kI 90]),iv 18 0,ia 19 (.call n_spec_l01Below [.t 18,kI 90]),ia 20 (.bld [.c (.i 0),.c (.i 0),.c (.i 0),.c (.i 0),.c (.i 0)] [(0,1,.t 6),(1,1,.t 12),(2,1,.t 15),(3,1,.t 17),(4,1,.t 19)]),ie (.stn 5 (.t 2) (.t 20))]) (.ret)))
theorem h_spec_l08Entry : Has Try.prog n_spec_l08Entry 21 c_spec_l08Entry [.cl 2 5] := ⟨by decide, Try.f97, _, Try.func97, rfl, rfl, ⟨none, by kernel_rfl⟩, by kernel_rfl⟩
def c_spec_l04Train : SC := .seq (.reg [ia 4 (.alloc [.c (.b false),.nil 1])]) (.seq (.reg [iv 9 0,ia 10 (.call n_spec_l01Once [.t 9,kI 2]),ia 11 (.bld [.c (.b false),.nil 1] [(0,1,.t 10)]),ia 5 (.alloc [.c (.b false),.nil 1]),ie (.stn 2 (.t 5) (.t 11))]) (.seq (.reg [iv 12 0,ia 13 (.call n_spec_l01Below [.t 12,kI 4]),ia 14 (.bin .add (kI 1) (.t 13)),iv 6 14]) (.seq (.seq (.reg [ia 7 (.mv (kI 0))]) (.block 0 (.loop (.seq (.seq (.reg [iv 15 7,iv 16 6,ia 17 (.bin .lss (.t 15) (.t 16))]) (.cond (.t 17) (.skip) (.exit 0))) (.seq (.block 1 (.seq (.reg [iv 20 0,iv 21 1,iv 22 7,ia 23 (.bin .add (.t 21) (.t 22)),ia 24 (.call n_spec_l04Boat [.t 20,.t 23]),ia 8 (.alloc [.c (.i 0),.c (.i 0),.c (.i 0),.c (.i 0),.c (.i 0),.c (.i 0)]),ie (.stn 6 (.t 8) (.t 24))]) (.seq (.reg [iv 25 7,ia 26 (.bin .gtr (.t 25) (kI 0)),iv 27 26,ig 27 true 28 (.mv (.t 0)),ig 27 true 29 (.call n_spec_l01Once [.t 28,kI 2]),ia 30 (.pick (.t 27) (.t 29) (kB false))]) (.cond (.t 30) (.rege [⟨0,true,[],ia 31 (.fld 1 (.t 5))⟩,⟨0,true,[],ia 32 (.ld1 (.t 31))⟩,⟨0,true,[],ia 33 (.fld 1 (.t 5))⟩,⟨0,true,[],ia 34 (.ld1 (.t 33))⟩,⟨0,true,[],ia 35 (.len (.t 34))⟩,⟨0,true,[],ia 36 (.bin .sub (.t 35) (kI 1))⟩,⟨0,false,[],ia 37 (.fld 1 (.t 5))⟩,⟨0,false,[],ia 38 (.ld1 (.t 37))⟩,⟨0,false,[],ia 39 (.fld 1 (.t 5))⟩,⟨0,false,[],ia 40 (.ld1 (.t 39))⟩,⟨0,false,[],ia 41 (.len (.t 40))⟩,⟨0,false,[],ia 42 (.bin .sub (.t 41) (kI 1))⟩,⟨0,false,[],ia 43 (.idx 1 (.t 38) (.t 42))⟩,⟨0,false,[],ia 44 (.ld1 (.t 43))⟩,⟨0,false,[],ia 45 (.ldn 6 (.t 8))⟩,⟨1,false,[],ia 46 (.bsl 6 [.t 45])⟩,⟨2,false,[0,1,2,3,4,5],ia 47 (.app 6 48 (.t 44) (.t 46))⟩,⟨0,false,[],ia 48 (.idx 1 (.t 32) (.t 36))⟩,⟨2,false,[],ie (.st1 (.t 48) (.t 47))⟩]) (.reg [ia 49 (.fld 1 (.t 5)),ia 50 (.ld1 (.t 49)),ia 51 (.ldn 6 (.t 8)),ia 52 (.bsl 6 [.t 51]),ia 53 (.bsl 1 [.t 52]),ia 54 (.app 1 24 (.t 50) (.t 53)),ia 55 (.fld 1 (.t 5)),ie (.st1 (.t 55) (.t 54))]))))) (.reg [iv 18 7,ia 19 (.bin .add (.t 18) (kI 1)),iv 7 19])))))) (.seq (.reg [ia 56 (.ldn 2 (.t 5)),ie (.stn 2 (.t 4) (.t 56))]) (.ret)))))
theorem h_spec_l04Train : Has Try.prog n_spec_l04Train 57 c_spec_l04Train [.cl 4 2] := ⟨by decide, Try.f43, _, Try.func43, rfl, rfl, ⟨none, by kernel_rfl⟩, by kernel_rfl⟩
def c_spec_l01New : SC := .seq (.reg [ia 2 (.mv (.k (.any)))]) (.seq (.reg [iv 5 0,ia 6 (.len (.t 5)),ia 7 (.bin .add (kI 33173) (.t 6)),iv 3 7]) (.seq (.seq (.reg [ia 4 (.mv (kI 0))]) (.block 0 (.loop (.seq (.seq (.reg [iv 8 4,iv 9 0,ia 10 (.len (.t 9)),ia 11 (.bin .lss (.t 8) (.t 10)),iv 12 11,ig 12 true 13 (.mv (.t 4)),ig 12 true 14 (.bin .lss (.t 13) (kI 4000)),ia 15 (.pick (.t 12) (.t 14) (kB false))]) (.cond (.t 15) (.skip) (.exit 0))) (.seq (.block 1 (.reg [iv 18 3,ia 19 (.bin .mul (.t 18) (kI 131)),iv 20 0,iv 21 4,ia 22 (.idx 1 (.t 20) (.t 21)),ia 23 (.ld1 (.t 22)),ia 24 (.cvt 0 (.t 23)),ia 25 (.bin .add (.t 19) (.t 24)),ia 26 (.bin .add (.t 25) (kI 7)),ia 27 (.bit .and (.t 26) (kI 1073741823)),iv 3 27])) (.reg [iv 16 4,ia 17 (.bin .add (.t 16) (kI 1)),iv 4 17])))))) (.seq (.reg [iv 28 0,iv 29 3,ia 30 (.bld [.nil 1,.c (.i 0),.c (.i 0)] [(0,1,.t 28),(2,1,.t 29)]),ia 31 (.box 3 (.t 30)),iv 2 31]) (.ret))))
theorem h_spec_l01New : Has Try.prog n_spec_l01New 32 c_spec_l01New [.t 2] := ⟨by decide, Try.f44, _, Try.func44, rfl, rfl, ⟨none, by kernel_rfl⟩, by kernel_rfl⟩
def c_spec_l01In : SC := .seq (.reg [ia 6 (.mv (kB false))]) (.seq (.reg [iv 7 0,iv 8 1,ia 9 (.bin .geq (.t 7) (.t 8)),iv 10 9,ig 10 true 11 (.mv (.t 0)),ig 10 true 12 (.mv (.t 2)),ig 10 true 13 (.bin .leq (.t 11) (.t 12)),ia 14 (.pick (.t 10) (.t 13) (kB false)),iv 6 14]) (.ret))
theorem h_spec_l01In : Has Try.prog n_spec_l01In 15 c_spec_l01In [.t 6] := ⟨by decide, Try.f46, _, Try.func46, rfl, rfl, ⟨none, by kernel_rfl⟩, by kernel_rfl⟩
def c_spec_l04Boats : SC := .seq (.reg [ia 1 (.box 2 (.t 0)),ia 2 (.mv (.k (.nil 6)))]) (.seq (.reg [ia 5 (.bsl 6 []),iv 3 5]) (.seq (.seq (.reg [ia 4 (.mv (kI 0))]) (.block 0 (.loop (.seq (.seq (.reg [iv 6 4,ia 7 (.fld 1 (.t 1)),ia 8 (.ld1 (.t 7)),ia 9 (.len (.t 8)),ia 10 (.bin .lss (.t 6) (.t 9))]) (.cond (.t 10) (.skip) (.exit 0))) (.seq (.block 1 (.reg [iv 13 3,ia 14 (.fld 1 (.t 1)),ia 15 (.ld1 (.t 14)),iv 16 4,ia 17 (.idx 1 (.t 15) (.t 16)),ia 18 (.ld1 (.t 17)),ia 19 (.app 6 48 (.t 13) (.t 18)),iv 3 19])) (.reg [iv 11 4,ia 12 (.bin .add (.t 11) (kI 1)),iv 4 12])))))) (.seq (.reg [iv 20 3,iv 2 20]) (.ret))))
theorem h_spec_l04Boats : Has Try.prog n_spec_l04Boats 21 c_spec_l04Boats [.t 2] := ⟨by decide, Try.f52, _, Try.func52, rfl, rfl, ⟨none, by kernel_rfl⟩, by kernel_rfl⟩
def c_spec_TrainOk : SC := .seq (.reg [ia 1 (.box 2 (.t 0)),ia 2 (.mv (kB false))]) (.seq (.reg [ia 7 (.ldn 2 (.t 1)),ia 8 (.call n_spec_l04Boats [.t 7]),iv 3 8]) (.seq (.seq (.reg [ia 4 (.mv (kI 0))]) (.block 0 (.loop (.seq (.seq (.reg [iv 9 4,ia 10 (.fld 1 (.t 1)),ia 11 (.ld1 (.t 10)),ia 12 (.len (.t 11)),ia 13 (.bin .lss (.t 9) (.t 12))]) (.cond (.t 13) (.skip) (.exit 0))) (.seq (.block 1 (.seq (.reg [ia 16 (.fld 1 (.t 1)),ia 17 (.ld1 (.t 16)),iv 18 4,ia 19 (.idx 1 (.t 17) (.t 18)),ia 20 (.ld1 (.t 19)),ia 21 (.len (.t 20)),ia 22 (.bin .eql (.t 21) (kI 0))]) (.cond (.t 22) (.seq (.reg [ia 2 (.mv (kB false))]) (.ret)) (.skip)))) (.reg [iv 14 4,ia 15 (.bin .add (.t 14) (kI 1)),iv 4 15])))))) (.seq (.seq (.reg [ia 5 (.mv (kI 0))]) (.block 2 (.loop (.seq (.seq (.reg [iv 23 5,iv 24 3,ia 25 (.len (.t 24)),ia 26 (.bin .lss (.t 23) (.t 25)),iv 27 26,ig 27 true 28 (.mv (.t 3)),ig 27 true 29 (.len (.t 28)),ig 27 true 30 (.bin .leq (.t 29) (kI 6)),ia 31 (.pick (.t 27) (.t 30) (kB false))]) (.cond (.t 31) (.skip) (.exit 2))) (.seq (.block 3 (.seq (.seq (.reg [iv 34 3,iv 35 5,ia 36 (.idx 6 (.t 34) (.t 35)),ia 37 (.ldn 6 (.t 36)),ia 38 (.call n_spec_BoatOk [.t 37]),ia 39 (.not (.t 38))]) (.cond (.t 39) (.seq (.reg [ia 2 (.mv (kB false))]) (.ret)) (.skip))) (.seq (.reg [ia 6 (.mv (kI 0))]) (.block 4 (.loop (.seq (.seq (.reg [iv 40 6,iv 41 5,ia 42 (.bin .lss (.t 40) (.t 41))]) (.cond (.t 42) (.skip) (.exit 4))) (.seq (.block 5 (.seq (.regq [iv 45 3,iv 46 6,ia 47 (.idx 6 (.t 45) (.t 46)),ia 48 (.fld 0 (.t 47)),ia 49 (.ld1 (.t 48)),iv 50 3,iv 51 5,ia 52 (.idx 6 (.t 50) (.t 51)),ia 53 (.fld 0 (.t 52)),ia 54 (.ld1 (.t 53)),ia 55 (.bin .eql (.t 49) (.t 54))]) (.cond (.t 55) (.seq (.reg [ia 2 (.mv (kB false))]) (.ret)) (.skip)))) (.reg [iv 43 6,ia 44 (.bin .add (.t 43) (kI 1)),iv 6 44])))))))) (.reg [iv 32 5,ia 33 (.bin .add (.t 32) (kI 1)),iv 5 33])))))) (.seq (.reg [iv 56 3,ia 57 (.len (.t 56)),ia 58 (.call n_spec_l01In [.t 57,kI 1,kI 6]),iv 2 58]) (.ret)))))
theorem h_spec_TrainOk : Has Try.prog n_spec_TrainOk 59 c_spec_TrainOk [.t 2] := ⟨by decide, Try.f53, _, Try.func53, rfl, rfl, ⟨none, by kernel_rfl⟩, by kernel_rfl⟩
def c_impl_IdsOf : SC := .seq (.reg [ia 1 (.box 2 (.t 0)),ia 2 (.mv (.k (.nil 1)))]) (.seq (.seq (.reg [ia 6 (.ldn 2 (.t 1)),ia 7 (.call n_impl_TrainOk [.t 6]),ia 8 (.not (.t 7))]) (.cond (.t 8) (.seq (.reg [ia 2 (.mv (.k (.nil 1)))]) (.ret)) (.skip))) (.seq (.reg [ia 3 (.mv (.k (.nil 1)))]) (.seq (.seq (.reg [ia 9 (.ldn 2 (.t 1)),ia 10 (.call n_impl_boatsOf [.t 9]),ia 11 (.len (.t 10)),ia 12 (.mv (kI 0))]) (.block 0 (.loop (.seq (.reg [ia 13 (.bin .lss (.t 12) (.t 11))]) (.seq (.cond (.t 13) (.skip) (.exit 0)) (.seq (.block 1 (.seq (.reg [ia 14 (.idx 6 (.t 10) (.t 12)),ia 15 (.ldn 6 (.t 14)),ia 5 (.alloc [.c (.i 0),.c (.i 0),.c (.i 0),.c (.i 0),.c (.i 0),.c (.i 0)]),ie (.stn 6 (.t 5) (.t 15))]) (.reg [iv 16 3,ia 17 (.fld 0 (.t 5)),ia 18 (.ld1 (.t 17)),ia 19 (.bsl 1 [.t 18]),ia 20 (.app 1 8 (.t 16) (.t 19)),iv 3 20]))) (.reg [ia 21 (.bin .add (.t 12) (kI 1)),iv 12 21]))))))) (.seq (.reg [iv 22 3,iv 2 22]) (.ret)))))
theorem h_impl_IdsOf : Has Try.prog n_impl_IdsOf 23 c_impl_IdsOf [.t 2] := ⟨by decide, Try.f54, _, Try.func54, rfl, rfl, ⟨none, by kernel_rfl⟩, by kernel_rfl⟩
def c_impl_TrainOk : SC := .seq (.reg [ia 1 (.box 2 (.t 0)),ia 2 (.mv (kB false))]) (.seq (.seq (.reg [ia 9 (.fld 1 (.t 1)),ia 10 (.ld1 (.t 9)),ia 11 (.len (.t 10)),ia 12 (.bin .eql (.t 11) (kI 0)),iv 13 12,ig 13 false 14 (.fld 1 (.t 1)),ig 13 false 15 (.ld1 (.t 14)),ig 13 false 16 (.len (.t 15)),ig 13 false 17 (.bin .gtr (.t 16) (kI 6)),ia 18 (.pick (.t 13) (kB true) (.t 17))]) (.cond (.t 18) (.seq (.reg [ia 2 (.mv (kB false))]) (.ret)) (.skip))) (.seq (.reg [ia 3 (.alloca 1 6 [.i 0])]) (.seq (.reg [ia 4 (.mv (kI 0))]) (.seq (.seq (.reg [ia 19 (.fld 1 (.t 1)),ia 20 (.ld1 (.t 19)),ia 21 (.len (.t 20)),ia 22 (.mv (kI 0))]) (.block 0 (.loop (.seq (.reg [ia 23 (.bin .lss (.t 22) (.t 21))]) (.seq (.cond (.t 23) (.skip) (.exit 0)) (.seq (.block 1 (.seq (.reg [ia 24 (.idx 1 (.t 20) (.t 22)),ia 25 (.ld1 (.t 24)),iv 6 25]) (.seq (.seq (.reg [iv 26 6,ia 27 (.len (.t 26)),ia 28 (.bin .eql (.t 27) (kI 0)),iv 29 28,ig 29 false 30 (.mv (.t 4)),ig 29 false 31 (.mv (.t 6)),ig 29 false 32 (.len (.t 31)),ig 29 false 33 (.bin .add (.t 30) (.t 32)),ig 29 false 34 (.bin .gtr (.t 33) (kI 6)),ia 35 (.pick (.t 29) (kB true) (.t 34))]) (.cond (.t 35) (.seq (.reg [ia 2 (.mv (kB false))]) (.ret)) (.skip))) (.seq (.reg [iv 36 6,ia 37 (.len (.t 36)),ia 38 (.mv (kI 0))]) (.block 2 (.loop (.seq (.reg [ia 39 (.bin .lss (.t 38) (.t 37))]) (.seq (.cond (.t 39) (.skip) (.exit 2)) (.seq (.block 3 (.seq (.reg [ia 40 (.idx 6 (.t 36) (.t 38)),ia 41 (.ldn 6 (.t 40)),ia 8 (.alloc [.c (.i 0),.c (.i 0),.c (.i 0),.c (.i 0),.c (.i 0),.c (.i 0)]),ie (.stn 6 (.t 8) (.t 41))]) (.seq (.seq (.regq [ia 42 (.ldn 6 (.t 8)),ia 43 (.call n_impl_BoatOk [.t 42]),ia 44 (.not (.t 43)),iv 45 44,ig 45 false 46 (.mv (.t 4)),ig 45 false 47 (.sla 1 6 (.t 3) (.t 46)),ig 45 false 48 (.fld 0 (.t 8)),ig 45 false 49 (.ld1 (.t 48)),ig 45 false 50 (.call n_slices_Contains___int_int_ [.t 47,.t 49]),ia 51 (.pick (.t 45) (kB true) (.t 50))]) (.cond (.t 51) (.seq (.reg [ia 2 (.mv (kB false))]) (.ret)) (.skip))) (.seq (.reg [iv 52 4,ia 53 (.fld 0 (.t 8)),ia 54 (.ld1 (.t 53)),ia 55 (.ida 1 6 (.t 3) (.t 52)),ie (.st1 (.t 55) (.t 54))]) (.reg [iv 56 4,ia 57 (.bin .add (.t 56) (kI 1)),iv 4 57]))))) (.reg [ia 58 (.bin .add (.t 38) (kI 1)),iv 38 58])))))))))) (.reg [ia 59 (.bin .add (.t 22) (kI 1)),iv 22 59]))))))) (.seq (.reg [ia 2 (.mv (kB true))]) (.ret))))))
theorem h_impl_TrainOk : Has Try.prog n_impl_TrainOk 60 c_impl_TrainOk [.t 2] := ⟨by decide, Try.f58, _, Try.func58, rfl, rfl, ⟨none, by kernel_rfl⟩, by kernel_rfl⟩
def c_impl_inRange : SC := .seq (.reg [ia 6 (.mv (kB false))]) (.seq (.reg [iv 7 0,iv 8 1,ia 9 (.bin .geq (.t 7) (.t 8)),iv 10 9,ig 10 true 11 (.mv (.t 0)),ig 10 true 12 (.mv (.t 2)),ig 10 true 13 (.bin .leq (.t 11) (.t 12)),ia 14 (.pick (.t 10) (.t 13) (kB false)),iv 6 14]) (.ret))
theorem h_impl_inRange : Has Try.prog n_impl_inRange 15 c_impl_inRange [.t 6] := ⟨by decide, Try.f59, _, Try.func59, rfl, rfl, ⟨none, by kernel_rfl⟩, by kernel_rfl⟩
def c_spec_l01Once : SC := .seq (.reg [ia 4 (.mv (kB false))]) (.seq (.reg [iv 5 0,iv 6 1,ia 7 (.call n_spec_l01Below [.t 5,.t 6]),ia 8 (.bin .eql (.t 7) (kI 0)),iv 4 8]) (.ret))
theorem h_spec_l01Once : Has Try.prog n_spec_l01Once 9 c_spec_l01Once [.t 4] := ⟨by decide, Try.f82, _, Try.func82, rfl, rfl, ⟨none, by kernel_rfl⟩, by kernel_rfl⟩
def c_spec_l01Below : SC := .seq (.reg [ia 4 (.mv (kI 0))]) (.seq (.seq (.reg [iv 9 1,ia 10 (.bin .leq (.t 9) (kI 0))]) (.cond (.t 10) (.seq (.reg [ia 4 (.mv (kI 0))]) (.ret)) (.skip))) (.seq (.seq (.reg [iv 11 1,ia 12 (.bin .leq (.t 11) (kI 256))]) (.cond (.t 12) (.seq (.reg [iv 13 0,ia 14 (.call n_spec_l01Byte [.t 13]),iv 15 1,ia 16 (.bin .rem (.t 14) (.t 15)),iv 4 16]) (.ret)) (.skip))) (.seq (.reg [iv 17 0,ia 18 (.call n_spec_l01Byte [.t 17]),iv 5 18]) (.seq (.reg [iv 19 0,ia 20 (.call n_spec_l01Byte [.t 19]),iv 6 20]) (.seq (.reg [iv 21 0,ia 22 (.call n_spec_l01Byte [.t 21]),iv 7 22]) (.seq (.reg [iv 23 0,ia 24 (.call n_spec_l01Byte [.t 23]),iv 8 24]) (.seq (.reg [iv 25 5,ia 26 (.bin .mul (.t 25) (kI 16777216)),iv 27 6,ia 28 (.bin .mul (.t 27) (kI 65536)),ia 29 (.bin .add (.t 26) (.t 28)),iv 30 7,ia 31 (.bin .mul (.t 30) (kI 256)),ia 32 (.bin .add (.t 29) (.t 31)),iv 33 8,ia 34 (.bin .add (.t 32) (.t 33)),iv 35 1,ia 36 (.bin .rem (.t 34) (.t 35)),iv 4 36]) (.ret))))))))
theorem h_spec_l01Below : Has Try.prog n_spec_l01Below 37 c_spec_l01Below [.t 4] := ⟨by decide, Try.f83, _, Try.func83, rfl, rfl, ⟨none, by kernel_rfl⟩, by kernel_rfl⟩
def c_spec_l04Boat : SC := .seq (.reg [ia 4 (.alloc [.c (.i 0),.c (.i 0),.c (.i 0),.c (.i 0),.c (.i 0),.c (.i 0)])]) (.seq (.reg [iv 5 1,iv 6 0,ia 7 (.bsl 1 [kI 5,kI 12,kI 30,kI 80]),ia 8 (.call n_spec_l01PickInt [.t 6,.t 7]),iv 9 0,ia 10 (.call n_spec_l01Below [.t 9,kI 9]),ia 11 (.bin .add (kI 1) (.t 10)),iv 12 0,ia 13 (.call n_spec_l01Below [.t 12,kI 30]),ia 14 (.bin .add (kI 1) (.t 13)),iv 15 0,ia 16 (.call n_spec_l01Below [.t 15,kI 12]),ia 17 (.bin .add (kI 1) (.t 16)),iv 18 0,ia 19 (.call n_spec_l01Below [.t 18,kI 3]),ia 20 (.bld [.c (.i 0),.c (.i 0),.c (.i 0),.c (.i 0),.c (.i 0),.c (.i 0)] [(0,1,.t 5),(1,1,.t 8),(2,1,.t 11),(3,1,.t 14),(4,1,.t 17),(5,1,.t 19)]),ie (.stn 6 (.t 4) (.t 20))]) (.ret))
theorem h_spec_l04Boat : Has Try.prog n_spec_l04Boat 21 c_spec_l04Boat [.cl 4 6] := ⟨by decide, Try.f84, _, Try.func84, rfl, rfl, ⟨none, by kernel_rfl⟩, by kernel_rfl⟩
def c_spec_l01PickInt : SC := .seq (.reg [ia 4 (.mv (kI 0))]) (.seq (.reg [iv 5 1,iv 6 0,iv 7 1,ia 8 (.len (.t 7)),ia 9 (.call n_spec_l01Below [.t 6,.t 8]),ia 10 (.idx 1 (.t 5) (.t 9)),ia 11 (.ld1 (.t 10)),iv 4 11]) (.ret))
theorem h_spec_l01PickInt : Has Try.prog n_spec_l01PickInt 12 c_spec_l01PickInt [.t 4] := ⟨by decide, Try.f85, _, Try.func85, rfl, rfl, ⟨none, by kernel_rfl⟩, by kernel_rfl⟩
def c_spec_BoatOk : SC := .seq (.reg [ia 1 (.box 6 (.t 0)),ia 2 (.mv (kB false))]) (.seq (.reg [ia 3 (.fld 0 (.t 1)),ia 4 (.ld1 (.t 3)),ia 5 (.call n_spec_l01In [.t 4,kI 1,kI 9999]),iv 6 5,ig 6 true 7 (.fld 1 (.t 1)),ig 6 true 8 (.ld1 (.t 7)),ig 6 true 9 (.call n_spec_l01In [.t 8,kI 1,kI 200]),ia 10 (.pick (.t 6) (.t 9) (kB false)),iv 11 10,ig 11 true 12 (.fld 2 (.t 1)),ig 11 true 13 (.ld1 (.t 12)),ig 11 true 14 (.call n_spec_l01In [.t 13,kI 1,kI 30]),ia 15 (.pick (.t 11) (.t 14) (kB false)),iv 16 15,ig 16 true 17 (.fld 3 (.t 1)),ig 16 true 18 (.ld1 (.t 17)),ig 16 true 19 (.call n_spec_l01In [.t 18,kI 1,kI 100]),ia 20 (.pick (.t 16) (.t 19) (kB false)),iv 21 20,ig 21 true 22 (.fld 4 (.t 1)),ig 21 true 23 (.ld1 (.t 22)),ig 21 true 24 (.call n_spec_l01In [.t 23,kI 1,kI 50]),ia 25 (.pick (.t 21) (.t 24) (kB false)),iv 26 25,ig 26 true 27 (.fld 5 (.t 1)),ig 26 true 28 (.ld1 (.t 27)),ig 26 true 29 (.call n_spec_l01In [.t 28,kI 0,kI 2]),ia 30 (.pick (.t 26) (.t 29) (kB false)),iv 2 30]) (.ret))
theorem h_spec_BoatOk : Has Try.prog n_spec_BoatOk 31 c_spec_BoatOk [.t 2] := ⟨by decide, Try.f90, _, Try.func90, rfl, rfl, ⟨none, by kernel_rfl⟩, by kernel_rfl⟩
def c_impl_boatsOf : SC := .seq (.reg [ia 1 (.box 2 (.t 0)),ia 2 (.mv (.k (.nil 6)))]) (.seq (.reg [ia 3 (.mv (.k (.nil 6)))]) (.seq (.seq (.reg [ia 6 (.fld 1 (.t 1)),ia 7 (.ld1 (.t 6)),ia 8 (.len (.t 7)),ia 9 (.mv (kI 0))]) (.block 0 (.loop (.seq (.reg [ia 10 (.bin .lss (.t 9) (.t 8))]) (.seq (.cond (.t 10) (.skip) (.exit 0)) (.seq (.block 1 (.seq (.reg [ia 11 (.idx 1 (.t 7) (.t 9)),ia 12 (.ld1 (.t 11)),iv 5 12]) (.reg [iv 13 3,iv 14 5,ia 15 (.app 6 48 (.t 13) (.t 14)),iv 3 15]))) (.reg [ia 16 (.bin .add (.t 9) (kI 1)),iv 9 16]))))))) (.seq (.reg [iv 17 3,iv 2 17]) (.ret))))
theorem h_impl_boatsOf : Has Try.prog n_impl_boatsOf 18 c_impl_boatsOf [.t 2] := ⟨by decide, Try.f91, _, Try.func91, rfl, rfl, ⟨none, by kernel_rfl⟩, by kernel_rfl⟩
def c_impl_BoatOk : SC := .seq (.reg [ia 1 (.box 6 (.t 0)),ia 2 (.mv (kB false))]) (.seq (.reg [ia 3 (.fld 0 (.t 1)),ia 4 (.ld1 (.t 3)),ia 5 (.call n_impl_inRange [.t 4,kI 1,kI 9999]),iv 6 5,ig 6 true 7 (.fld 1 (.t 1)),ig 6 true 8 (.ld1 (.t 7)),ig 6 true 9 (.call n_impl_inRange [.t 8,kI 1,kI 200]),ia 10 (.pick (.t 6) (.t 9) (kB false)),iv 11 10,ig 11 true 12 (.fld 2 (.t 1)),ig 11 true 13 (.ld1 (.t 12)),ig 11 true 14 (.call n_impl_inRange [.t 13,kI 1,kI 30]),ia 15 (.pick (.t 11) (.t 14) (kB false)),iv 16 15,ig 16 true 17 (.fld 3 (.t 1)),ig 16 true 18 (.ld1 (.t 17)),ig 16 true 19 (.call n_impl_inRange [.t 18,kI 1,kI 100]),ia 20 (.pick (.t 16) (.t 19) (kB false)),iv 21 20,ig 21 true 22 (.fld 4 (.t 1)),ig 21 true 23 (.ld1 (.t 22)),ig 21 true 24 (.call n_impl_inRange [.t 23,kI 1,kI 50]),ia 25 (.pick (.t 21) (.t 24) (kB false)),iv 26 25,ig 26 true 27 (.fld 5 (.t 1)),ig 26 true 28 (.ld1 (.t 27)),ig 26 true 29 (.call n_impl_inRange [.t 28,kI 0,kI 2]),ia 30 (.pick (.t 26) (.t 29) (kB false)),iv 2 30]) (.ret))
theorem h_impl_BoatOk : Has Try.prog n_impl_BoatOk 31 c_impl_BoatOk [.t 2] := ⟨by decide, Try.f93, _, Try.func93, rfl, rfl, ⟨none, by kernel_rfl⟩, by kernel_rfl⟩
def c_slices_Contains___int_int_ : SC := .seq (.reg [ia 4 (.mv (kB false))]) (.seq (.reg [iv 5 0,iv 6 1,ia 7 (.call n_slices_Index___int_int_ [.t 5,.t 6]),ia 8 (.bin .geq (.t 7) (kI 0)),iv 4 8]) (.ret))
theorem h_slices_Contains___int_int_ : Has Try.prog n_slices_Contains___int_int_ 9 c_slices_Contains___int_int_ [.t 4] := ⟨by decide, Try.f94, _, Try.func94, rfl, rfl, ⟨none, by kernel_rfl⟩, by kernel_rfl⟩
def c_spec_l01Byte : SC := .seq (.reg [ia 2 (.mv (kI 0))]) (.seq (.reg [iv 4 0,iv 5 0,ia 6 (.nck (.t 5)),ia 7 (.fld 2 (.t 6)),ia 8 (.ld1 (.t 7)),ia 9 (.binw .mul (.t 8) (kI 6364136223846793005)),ia 10 (.binw .add (.t 9) (kI 1442695040888963407)),ia 11 (.nck (.t 4)),ia 12 (.fld 2 (.t 11)),ie (.st1 (.t 12) (.t 10))]) (.seq (.regq [iv 13 0,ia 14 (.nck (.t 13)),ia 15 (.fld 2 (.t 14)),ia 16 (.ld1 (.t 15)),ia 17 (.bit .shr (.t 16) (kI 33)),iv 18 0,ia 19 (.nck (.t 18)),ia 20 (.fld 2 (.t 19)),ia 21 (.ld1 (.t 20)),ia 22 (.bit .shr (.t 21) (kI 45)),ia 23 (.bit .xor (.t 17) (.t 22)),ia 24 (.bit .and (.t 23) (kI 255)),iv 3 24]) (.seq (.seq (.regq [iv 25 0,ia 26 (.nck (.t 25)),ia 27 (.fld 1 (.t 26)),ia 28 (.ld1 (.t 27)),iv 29 0,ia 30 (.nck (.t 29)),ia 31 (.fld 0 (.t 30)),ia 32 (.ld1 (.t 31)),ia 33 (.len (.t 32)),ia 34 (.bin .lss (.t 28) (.t 33))]) (.cond (.t 34) (.seq (.regq [iv 35 3,iv 36 0,ia 37 (.nck (.t 36)),ia 38 (.fld 0 (.t 37)),ia 39 (.ld1 (.t 38)),iv 40 0,ia 41 (.nck (.t 40)),ia 42 (.fld 1 (.t 41)),ia 43 (.ld1 (.t 42)),ia 44 (.idx 1 (.t 39) (.t 43)),ia 45 (.ld1 (.t 44)),ia 46 (.cvt 0 (.t 45)),ia 47 (.bin .add (.t 35) (.t 46)),ia 48 (.bit .and (.t 47) (kI 255)),iv 3 48]) (.reg [iv 49 0,iv 50 0,ia 51 (.nck (.t 50)),ia 52 (.fld 1 (.t 51)),ia 53 (.ld1 (.t 52)),ia 54 (.bin .add (.t 53) (kI 1)),ia 55 (.nck (.t 49)),ia 56 (.fld 1 (.t 55)),ie (.st1 (.t 56) (.t 54))])) (.skip))) (.seq (.reg [iv 57 3,iv 2 57]) (.ret)))))
theorem h_spec_l01Byte : Has Try.prog n_spec_l01Byte 58 c_spec_l01Byte [.t 2] := ⟨by decide, Try.f106, _, Try.func106, rfl, rfl, ⟨none, by kernel_rfl⟩, by kernel_rfl⟩
def c_slices_Index___int_int_ : SC := .seq (.reg [ia 4 (.mv (kI 0))]) (.seq (.seq (.reg [iv 6 0,ia 7 (.len (.t 6)),ia 8 (.mv (kI 0))]) (.block 0 (.loop (.seq (.reg [ia 9 (.bin .lss (.t 8) (.t 7))]) (.seq (.cond (.t 9) (.skip) (.exit 0)) (.seq (.block 1 (.seq (.reg [iv 10 8,iv 5 10]) (.seq (.reg [iv 11 1,iv 12 0,iv 13 5,ia 14 (.idx 1 (.t 12) (.t 13)),ia 15 (.ld1 (.t 14)),ia 16 (.bin .eql (.t 11) (.t 15))]) (.cond (.t 16) (.seq (.reg [iv 17 5,iv 4 17]) (.ret)) (.skip))))) (.reg [ia 18 (.bin .add (.t 8) (kI 1)),iv 8 18]))))))) (.seq (.reg [ia 4 (.mv (kI (-1)))]) (.ret)))
theorem h_slices_Index___int_int_ : Has Try.prog n_slices_Index___int_int_ 19 c_slices_Index___int_int_ [.t 4] := ⟨by decide, Try.f109, _, Try.func109, rfl, rfl, ⟨none, by kernel_rfl⟩, by kernel_rfl⟩
def c_spec_IdsOf : SC := .seq (.reg [ia 1 (.box 2 (.t 0)),ia 2 (.mv (.k (.nil 1)))]) (.seq (.reg [ia 6 (.bsl 1 []),iv 3 6]) (.seq (.reg [ia 7 (.ldn 2 (.t 1)),ia 8 (.call n_spec_l04Boats [.t 7]),iv 4 8]) (.seq (.seq (.reg [ia 5 (.mv (kI 0))]) (.block 0 (.loop (.seq (.seq (.reg [iv 9 5,iv 10 4,ia 11 (.len (.t 10)),ia 12 (.bin .lss (.t 9) (.t 11)),iv 13 12,ig 13 true 14 (.ldn 2 (.t 1)),ig 13 true 15 (.call n_spec_TrainOk [.t 14]),ia 16 (.pick (.t 13) (.t 15) (kB false))]) (.cond (.t 16) (.skip) (.exit 0))) (.seq (.block 1 (.reg [iv 19 3,iv 20 4,iv 21 5,ia 22 (.idx 6 (.t 20) (.t 21)),ia 23 (.fld 0 (.t 22)),ia 24 (.ld1 (.t 23)),ia 25 (.bsl 1 [.t 24]),ia 26 (.app 1 8 (.t 19) (.t 25)),iv 3 26])) (.reg [iv 17 5,ia 18 (.bin .add (.t 17) (kI 1)),iv 5 18])))))) (.seq (.reg [iv 27 3,iv 2 27]) (.ret)))))
theorem h_spec_IdsOf : Has Try.prog n_spec_IdsOf 28 c_spec_IdsOf [.t 2] := ⟨by decide, Try.f23, _, Try.func23, rfl, rfl, ⟨none, by kernel_rfl⟩, by kernel_rfl⟩
def c_impl_ClassOf : SC := .seq (.reg [ia 1 (.box 2 (.t 0)),ia 2 (.mv (kI 0))]) (.seq (.seq (.reg [ia 6 (.ldn 2 (.t 1)),ia 7 (.call n_impl_TrainOk [.t 6]),ia 8 (.not (.t 7))]) (.cond (.t 8) (.seq (.reg [ia 2 (.mv (kI (-1)))]) (.ret)) (.skip))) (.seq (.reg [ia 9 (.fld 1 (.t 1)),ia 10 (.ld1 (.t 9)),ia 11 (.idx 1 (.t 10) (kI 0)),ia 12 (.ld1 (.t 11)),ia 13 (.idx 6 (.t 12) (kI 0)),ia 14 (.fld 5 (.t 13)),ia 15 (.ld1 (.t 14)),iv 3 15]) (.seq (.seq (.reg [ia 16 (.ldn 2 (.t 1)),ia 17 (.call n_impl_boatsOf [.t 16]),ia 18 (.len (.t 17)),ia 19 (.mv (kI 0))]) (.block 0 (.loop (.seq (.reg [ia 20 (.bin .lss (.t 19) (.t 18))]) (.seq (.cond (.t 20) (.skip) (.exit 0)) (.seq (.block 1 (.seq (.reg [ia 21 (.idx 6 (.t 17) (.t 19)),ia 22 (.ldn 6 (.t 21)),ia 5 (.alloc [.c (.i 0),.c (.i 0),.c (.i 0),.c (.i 0),.c (.i 0),.c (.i 0)]),ie (.stn 6 (.t 5) (.t 22))]) (.reg [iv 23 3,ia 24 (.fld 5 (.t 5)),ia 25 (.ld1 (.t 24)),ia 26 (.mn [.t 23,.t 25]),iv 3 26]))) (.reg [ia 27 (.bin .add (.t 19) (kI 1)),iv 19 27]))))))) (.seq (.reg [iv 28 3,iv 2 28]) (.ret)))))
theorem h_impl_ClassOf : Has Try.prog n_impl_ClassOf 29 c_impl_ClassOf [.t 2] := ⟨by decide, Try.f69, _, Try.func69, rfl, rfl, ⟨none, by kernel_rfl⟩, by kernel_rfl⟩
def c_slices_SortStableFunc___int_int_ : SC := .reg [iv 4 0,iv 5 0,ia 6 (.len (.t 5)),iv 7 1,ia 8 (.call n_slices_stableCmpFunc_int_ [.t 4,.t 6,.t 7])]
theorem h_slices_SortStableFunc___int_int_ : Has Try.prog n_slices_SortStableFunc___int_int_ 9 c_slices_SortStableFunc___int_int_ [] := ⟨by decide, Try.f78, _, Try.func78, rfl, rfl, ⟨none, by kernel_rfl⟩, by kernel_rfl⟩
def c_slices_stableCmpFunc_int_ : SC := .seq (.reg [ia 6 (.mv (kI 20))]) (.seq (.reg [iv 10 6,ia 7 (.mv (kI 0)),iv 8 10]) (.seq (.block 0 (.loop (.seq (.seq (.reg [iv 11 8,iv 12 1,ia 13 (.bin .leq (.t 11) (.t 12))]) (.cond (.t 13) (.skip) (.exit 0))) (.block 1 (.seq (.reg [iv 14 0,iv 15 7,iv 16 8,iv 17 2,ia 18 (.call n_slices_insertionSortCmpFunc_int_ [.t 14,.t 15,.t 16,.t 17])]) (.seq (.reg [iv 19 8,iv 7 19]) (.reg [iv 20 8,iv 21 6,ia 22 (.bin .add (.t 20) (.t 21)),iv 8 22]))))))) (.seq (.reg [iv 23 0,iv 24 7,iv 25 1,iv 26 2,ia 27 (.call n_slices_insertionSortCmpFunc_int_ [.t 23,.t 24,.t 25,.t 26])]) (.block 2 (.loop (.seq (.seq (.reg [iv 28 6,iv 29 1,ia 30 (.bin .lss (.t 28) (.t 29))]) (.cond (.t 30) (.skip) (.exit 2))) (.block 3 (.seq (.reg [iv 31 6,ia 32 (.bin .mul (kI 2) (.t 31)),ia 7 (.mv (kI 0)),iv 8 32]) (.seq (.block 4 (.loop (.seq (.seq (.reg [iv 33 8,iv 34 1,ia 35 (.bin .leq (.t 33) (.t 34))]) (.cond (.t 35) (.skip) (.exit 4))) (.block 5 (.seq (.reg [iv 36 0,iv 37 7,iv 38 7,iv 39 6,ia 40 (.bin .add (.t 38) (.t 39)),iv 41 8,iv 42 2,ia 43 (.call n_slices_symMergeCmpFunc_int_ [.t 36,.t 37,.t 40,.t 41,.t 42])]) (.seq (.reg [iv 44 8,iv 7 44]) (.reg [iv 45 8,iv 46 6,ia 47 (.bin .mul (kI 2) (.t 46)),ia 48 (.bin .add (.t 45) (.t 47)),iv 8 48]))))))) (.seq (.seq (.reg [iv 49 7,iv 50 6,ia 51 (.bin .add (.t 49) (.t 50)),iv 9 51]) (.seq (.reg [iv 52 9,iv 53 1,ia 54 (.bin .lss (.t 52) (.t 53))]) (.cond (.t 54) (.reg [iv 55 0,iv 56 7,iv 57 9,iv 58 1,iv 59 2,ia 60 (.call n_slices_symMergeCmpFunc_int_ [.t 55,.t 56,.t 57,.t 58,.t 59])]) (.skip)))) (.reg [iv 61 6,ia 62 (.bin .mul (.t 61) (kI 2)),iv 6 62])))))))))))
theorem h_slices_stableCmpFunc_int_ : Has Try.prog n_slices_stableCmpFunc_int_ 63 c_slices_stableCmpFunc_int_ [] := ⟨by decide, Try.f104, _, Try.func104, rfl, rfl, ⟨none, by kernel_rfl⟩, by kernel_rfl⟩
def c_slices_insertionSortCmpFunc_int_ : SC := .seq (.reg [iv 10 1,ia 11 (.bin .add (.t 10) (kI 1)),iv 8 11]) (.block 0 (.loop (.seq (.seq (.reg [iv 12 8,iv 13 2,ia 14 (.bin .lss (.t 12) (.t 13))]) (.cond (.t 14) (.skip) (.exit 0))) (.seq (.block 1 (.seq (.reg [iv 17 8,iv 9 17]) (.block 2 (.loop (.seq (.seq (.regq [iv 18 9,iv 19 1,ia 20 (.bin .gtr (.t 18) (.t 19)),iv 21 20,ig 21 true 22 (.mv (.t 3)),ig 21 true 23 (.mv (.t 0)),ig 21 true 24 (.mv (.t 9)),ig 21 true 25 (.idx 1 (.t 23) (.t 24)),ig 21 true 26 (.ld1 (.t 25)),ig 21 true 27 (.mv (.t 0)),ig 21 true 28 (.mv (.t 9)),ig 21 true 29 (.bin .sub (.t 28) (kI 1)),ig 21 true 30 (.idx 1 (.t 27) (.t 29)),ig 21 true 31 (.ld1 (.t 30)),ig 21 true 32 (.callv (.t 22) [.t 26,.t 31]),ig 21 true 33 (.bin .lss (.t 32) (kI 0)),ia 34 (.pick (.t 21) (.t 33) (kB false))]) (.cond (.t 34) (.skip) (.exit 2))) (.seq (.block 3 (.rege [⟨0,false,[],iv 37 0⟩,⟨0,false,[],iv 38 9⟩,⟨0,true,[],iv 39 0⟩,⟨0,true,[],iv 40 9⟩,⟨0,true,[],ia 41 (.bin .sub (.t 40) (kI 1))⟩,⟨0,false,[],iv 42 0⟩,⟨0,false,[],iv 43 9⟩,⟨0,false,[],ia 44 (.bin .sub (.t 43) (kI 1))⟩,⟨0,false,[],ia 45 (.idx 1 (.t 42) (.t 44))⟩,⟨0,false,[],ia 46 (.ld1 (.t 45))⟩,⟨0,false,[],iv 47 0⟩,⟨0,false,[],iv 48 9⟩,⟨0,false,[],ia 49 (.idx 1 (.t 47) (.t 48))⟩,⟨0,false,[],ia 50 (.ld1 (.t 49))⟩,⟨0,false,[],ia 51 (.idx 1 (.t 37) (.t 38))⟩,⟨2,false,[2,3,4],ie (.st1 (.t 51) (.t 46))⟩,⟨0,false,[],ia 52 (.idx 1 (.t 39) (.t 41))⟩,⟨2,false,[],ie (.st1 (.t 52) (.t 50))⟩])) (.reg [iv 35 9,ia 36 (.bin .sub (.t 35) (kI 1)),iv 9 36]))))))) (.reg [iv 15 8,ia 16 (.bin .add (.t 15) (kI 1)),iv 8 16])))))
theorem h_slices_insertionSortCmpFunc_int_ : Has Try.prog n_slices_insertionSortCmpFunc_int_ 53 c_slices_insertionSortCmpFunc_int_ [] := ⟨by decide, Try.f113, _, Try.func113, rfl, rfl, ⟨none, by kernel_rfl⟩, by kernel_rfl⟩
def c_laws_FnTolls : SC := .seq (.reg [ia 2 (.mv (kB false))]) (.seq (.seq (.reg [iv 13 0,ia 14 (.call n_laws_big [.t 13])]) (.cond (.t 14) (.seq (.reg [ia 2 (.mv (kB true))]) (.ret)) (.skip))) (.seq (.reg [iv 15 0,ia 16 (.call n_spec_DrawTariff [.t 15]),ia 3 (.alloc [.c (.i 0),.c (.i 0),.nil 1,.nil 1]),ie (.stn 4 (.t 3) (.t 16))]) (.seq (.reg [iv 17 0,ia 18 (.call n_spec_DrawTrain [.t 17]),ia 4 (.alloc [.c (.b false),.nil 1]),ie (.stn 2 (.t 4) (.t 18))]) (.seq (.regq [ia 19 (.ldn 4 (.t 3)),ia 20 (.ldn 2 (.t 4)),iv 21 0,ia 22 (.call n_laws_at [.t 21,kI 0]),ia 23 (.call n_impl_TollEntries [.t 19,.t 20,.t 22]),iv 5 23]) (.seq (.reg [ia 6 (.mv (kI 0))]) (.seq (.seq (.reg [ia 7 (.mv (kI 0))]) (.block 0 (.loop (.seq (.seq (.reg [iv 24 7,iv 25 5,ia 26 (.len (.t 25)),ia 27 (.bin .lss (.t 24) (.t 26))]) (.cond (.t 27) (.skip) (.exit 0))) (.seq (.block 1 (.seq (.reg [iv 30 6,iv 31 5,iv 32 7,ia 33 (.idx 5 (.t 31) (.t 32)),ia 34 (.fld 2 (.t 33)),ia 35 (.ld1 (.t 34)),ia 36 (.bin .add (.t 30) (.t 35)),iv 6 36]) (.seq (.regq [iv 37 5,iv 38 7,ia 39 (.idx 5 (.t 37) (.t 38)),ia 40 (.fld 0 (.t 39)),ia 41 (.ld1 (.t 40)),ia 42 (.bin .neq (.t 41) (kI 0)),iv 43 42,ig 43 false 44 (.mv (.t 5)),ig 43 false 45 (.mv (.t 7)),ig 43 false 46 (.idx 5 (.t 44) (.t 45)),ig 43 false 47 (.fld 1 (.t 46)),ig 43 false 48 (.ld1 (.t 47)),ig 43 false 49 (.bin .lss (.t 48) (kI 1)),ia 50 (.pick (.t 43) (kB true) (.t 49)),iv 51 50,ig 51 false 52 (.mv (.t 5)),ig 51 false 53 (.mv (.t 7)),ig 51 false 54 (.idx 5 (.t 52) (.t 53)),ig 51 false 55 (.fld 1 (.t 54)),ig 51 false 56 (.ld1 (.t 55)),ig 51 false 57 (.fld 3 (.t 3)),ig 51 false 58 (.ld1 (.t 57)),ig 51 false 59 (.len (.t 58)),ig 51 false 60 (.bin .gtr (.t 56) (.t 59)),ia 61 (.pick (.t 51) (kB true) (.t 60)),iv 62 61,ig 62 false 63 (.mv (.t 5)),ig 62 false 64 (.mv (.t 7)),ig 62 false 65 (.idx 5 (.t 63) (.t 64)),ig 62 false 66 (.fld 4 (.t 65)),ig 62 false 67 (.ld1 (.t 66)),ig 62 false 68 (.ldn 2 (.t 4)),ig 62 false 69 (.call n_spec_IdsOf [.t 68]),ig 62 false 70 (.idx 1 (.t 69) (kI 0)),ig 62 false 71 (.ld1 (.t 70)),ig 62 false 72 (.bin .neq (.t 67) (.t 71)),ia 73 (.pick (.t 62) (kB true) (.t 72)),iv 74 73,ig 74 false 75 (.mv (.t 7)),ig 74 false 76 (.bin .gtr (.t 75) (kI 0)),ig 74 false 77 (.mv (.t 76)),ig 77 true 78 (.mv (.t 5)),ig 77 true 79 (.mv (.t 7)),ig 77 true 80 (.idx 5 (.t 78) (.t 79)),ig 77 true 81 (.fld 1 (.t 80)),ig 77 true 82 (.ld1 (.t 81)),ig 77 true 83 (.mv (.t 5)),ig 77 true 84 (.mv (.t 7)),ig 77 true 85 (.bin .sub (.t 84) (kI 1)),ig 77 true 86 (.idx 5 (.t 83) (.t 85)),ig 77 true 87 (.fld 1 (.t 86)),ig 77 true 88 (.ld1 (.t 87)),ig 77 true 89 (.bin .leq (.t 82) (.t 88)),ig 74 false 90 (.pick (.t 77) (.t 89) (kB false)),ia 91 (.pick (.t 74) (kB true) (.t 90)),iv 92 91,ig 92 false 93 (.mv (.t 5)),ig 92 false 94 (.mv (.t 7)),ig 92 false 95 (.idx 5 (.t 93) (.t 94)),ig 92 false 96 (.ldn 5 (.t 95)),ig 92 false 97 (.call n_impl_EntryOk [.t 96]),ig 92 false 98 (.not (.t 97)),ia 99 (.pick (.t 92) (kB true) (.t 98))]) (.cond (.t 99) (.seq (.reg [ia 2 (.mv (kB false))]) (.ret)) (.skip))))) (.reg [iv 28 7,ia 29 (.bin .add (.t 28) (kI 1)),iv 7 29])))))) (.seq (.reg [iv 101 0,ia 102 (.call n_spec_DrawBook [.t 101]),iv 103 5,ia 104 (.call n_impl_PostEntries [.t 102,.t 103]),iv 100 104,ia 105 (.ext 0 (.t 100)),ia 106 (.ext 1 (.t 100)),iv 8 105,iv 9 106]) (.seq (.reg [iv 107 8,ia 108 (.call n_impl_BalancesOf [.t 107]),iv 10 108]) (.seq (.reg [ia 11 (.mv (kI 0))]) (.seq (.seq (.reg [ia 12 (.mv (kI 0))]) (.block 2 (.loop (.seq (.seq (.reg [iv 109 12,iv 110 10,ia 111 (.len (.t 110)),ia 112 (.bin .lss (.t 109) (.t 111))]) (.cond (.t 112) (.skip) (.exit 2))) (.seq (.block 3 (.reg [iv 115 11,iv 116 10,iv 117 12,ia 118 (.idx 1 (.t 116) (.t 117)),ia 119 (.ld1 (.t 118)),ia 120 (.bin .add (.t 115) (.t 119)),iv 11 120])) (.reg [iv 113 12,ia 114 (.bin .add (.t 113) (kI 1)),iv 12 114])))))) (.seq (.reg [iv 121 9,iv 122 121,ig 122 true 123 (.mv (.t 6)),ig 122 true 124 (.ldn 4 (.t 3)),ig 122 true 125 (.ldn 2 (.t 4)),ig 122 true 126 (.call n_impl_TollOf [.t 124,.t 125]),ig 122 true 127 (.bin .eql (.t 123) (.t 126)),ia 128 (.pick (.t 122) (.t 127) (kB false)),iv 129 128,ig 129 true 130 (.mv (.t 11)),ig 129 true 131 (.bin .eql (.t 130) (kI 0)),ia 132 (.pick (.t 129) (.t 131) (kB false)),iv 133 132,ig 133 true 134 (.mv (.t 10)),ig 133 true 135 (.len (.t 134)),ig 133 true 136 (.bin .eql (.t 135) (kI 12)),ia 137 (.pick (.t 133) (.t 136) (kB false)),iv 138 137,ig 138 true 139 (.ldn 4 (.t 3)),ig 138 true 140 (.call n_impl_TariffOk [.t 139]),ia 141 (.pick (.t 138) (.t 140) (kB false)),iv 142 141,ig 142 true 143 (.mv (.t 8)),ig 142 true 144 (.call n_impl_BookOk [.t 143]),ia 145 (.pick (.t 142) (.t 144) (kB false)),iv 2 145]) (.ret))))))))))))
theorem h_laws_FnTolls : Has Try.prog n_laws_FnTolls 146 c_laws_FnTolls [.t 2] := ⟨by decide, Try.f4, _, Try.func4, rfl, rfl, ⟨none, by kernel_rfl⟩, by kernel_rfl⟩
def c_spec_DrawTariff : SC := .seq (.reg [ia 2 (.alloc [.c (.i 0),.c (.i 0),.nil 1,.nil 1])]) (.seq (.reg [iv 3 0,ia 4 (.call n_spec_l01New [.t 3]),ia 5 (.call n_spec_l08Tariff [.t 4]),ie (.stn 4 (.t 2) (.t 5))]) (.ret))
theorem h_spec_DrawTariff : Has Try.prog n_spec_DrawTariff 6 c_spec_DrawTariff [.cl 2 4] := ⟨by decide, Try.f21, _, Try.func21, rfl, rfl, ⟨none, by kernel_rfl⟩, by kernel_rfl⟩
def inRange (n a b : Int) : Bool := decide (a ≤ n) && decide (n ≤ b)
theorem inRange_impl (n a b : Int) : PureF Try.prog n_impl_inRange [.c (.i n), .c (.i a), .c (.i b)] (.c (.b (inRange n a b))) := by
  refine pure_of h_impl_inRange (by simp) fun hwf => ?_
  simp -dsimp -implicitDefEqProofs [c_impl_inRange, inRange]
  exact ⟨fun h => by simp [h], fun h => by simp [Int.not_le.2 h]⟩
theorem inRange_spec (n a b : Int) : PureF Try.prog n_spec_l01In [.c (.i n), .c (.i a), .c (.i b)] (.c (.b (inRange n a b))) := by
  refine pure_of h_spec_l01In (by simp) fun hwf => ?_
  simp -dsimp -implicitDefEqProofs [c_spec_l01In, inRange]
  exact ⟨fun h => by simp [h], fun h => by simp [Int.not_le.2 h]⟩
structure Entry where
  From : Int
  To : Int
  Amount : Int
  Time : Int
  Why : Int
  deriving Inhabited, DecidableEq
@[simp] def Entry.enc (e : Entry) : List C := [.i e.From, .i e.To, .i e.Amount, .i e.Time, .i e.Why]
def EntryOk (e : Entry) : Bool := decide (e.From ≠ e.To) && inRange e.From 0 11 && inRange e.To 0 11 && inRange e.Amount 1 1000000000 && inRange e.Time 0 1000000 && inRange e.Why 0 9999
theorem EntryOk_impl (e : Entry) : PureF Try.prog n_impl_EntryOk [.agg (e.enc.map .c)] (.c (.b (EntryOk e))) := by
  refine pure_of h_impl_EntryOk (by simp) fun hwf => ?_
  simp -dsimp -implicitDefEqProofs [c_impl_EntryOk]
  refine ⟨fun h => ?_, fun h => by simp [EntryOk, h]⟩
  refine call_lend (inRange_impl e.From 0 11) (by simp) rfl ?_
  simp -dsimp -implicitDefEqProofs
  refine ⟨fun h1 => ?_, fun h1 => by simp [EntryOk, h1]⟩
  refine call_lend (inRange_impl e.To 0 11) (by simp) rfl ?_
  simp -dsimp -implicitDefEqProofs
  refine ⟨fun h2 => ?_, fun h1 => by simp [EntryOk, h1]⟩
  refine call_lend (inRange_impl e.Amount 1 1000000000) (by simp) rfl ?_
  simp -dsimp -implicitDefEqProofs
  refine ⟨fun h3 => ?_, fun h1 => by simp [EntryOk, h1]⟩
  refine call_lend (inRange_impl e.Time 0 1000000) (by simp) rfl ?_
  simp -dsimp -implicitDefEqProofs
  refine ⟨fun h4 => ?_, fun h1 => by simp [EntryOk, h1]⟩
  refine call_lend (inRange_impl e.Why 0 9999) (by simp) rfl ?_
  simp -dsimp -implicitDefEqProofs
  simp [EntryOk, h, h1, h2, h3, h4]
def BookOk (es : List Entry) : Bool := decide (es.length ≤ 2000) && es.all EntryOk
theorem all_take_succ {α : Type} {p : α → Bool} {l : List α} {k : Nat} {e : α} (he : l[k]? = some e) (h : ∀ x ∈ l.take k, p x = true) (hp : p e = true) : ∀ x ∈ l.take (k + 1), p x = true := by
  intro x hx
  rw [List.take_succ_eq_append_getElem (List.getElem?_eq_some_iff.1 he).1] at hx
  rcases List.mem_append.1 hx with h1 | h1
  · exact h x h1
  · rw [List.mem_singleton] at h1
    have := (List.getElem?_eq_some_iff.1 he).2
    rw [h1, this]; exact hp
theorem all_of_take {α : Type} {p : α → Bool} {l : List α} {k : Nat} (hk : l.length ≤ k) (h : ∀ x ∈ l.take k, p x = true) : l.all p = true := by
  rw [List.take_of_length_le hk] at h
  exact List.all_eq_true.2 h
theorem all_false {α : Type} {p : α → Bool} {l : List α} {k : Nat} {e : α} (he : l[k]? = some e) (hp : p e = false) : l.all p = false := by
  rw [List.all_eq_false]
  exact ⟨e, List.mem_of_getElem? he, by simp [hp]⟩
theorem lt_t {k n : Nat} (h : k < n) : ((k : Int) < (n : Int)) = True := by simp [h]
theorem lt_f {k n : Nat} (h : n ≤ k) : ((k : Int) < (n : Int)) = False := by simp [h]
theorem BookOk_impl (es : List Entry) : PureF Try.prog n_impl_BookOk [.c (.sl 5 (es.map Entry.enc))] (.c (.b (BookOk es))) := by
  refine pure_of h_impl_BookOk (by simp) fun hwf => ?_
  simp -dsimp -implicitDefEqProofs [c_impl_BookOk]
  intro hlen
  refine ⟨fun h => by simp [BookOk]; omega, fun h _ => ?_⟩
  refine loop_rule (ι := Nat) (fun k => k ≤ es.length ∧ ∀ e ∈ es.take k, EntryOk e = true) (fun k => stOf [(8, .c (.sl 5 (es.map Entry.enc))), (9, .c (.i es.length)), (10, .c (.i k))] []) (fun k => es.length - k) 0 (by simp) (by apply le_of <;> simp [AV.refs1, AV.ref0]) ?_
  rintro k ⟨hk, hall⟩
  rcases Nat.lt_or_ge k es.length with hlt | hge
  · obtain ⟨e, he⟩ : ∃ e, es[k]? = some e := ⟨_, List.getElem?_eq_getElem hlt⟩
    simp -dsimp -implicitDefEqProofs [he, lt_t hlt]
    refine call_lend (EntryOk_impl e) (by simp) rfl ?_
    simp -dsimp -implicitDefEqProofs
    refine ⟨fun h1 => by simp [BookOk, all_false he h1], fun h1 => ?_⟩
    refine ⟨by unfold maxLen at hlen; constructor <;> omega, k + 1, ⟨by omega, all_take_succ he hall h1⟩, by omega, ?_⟩
    apply le_of <;> simp [AV.refs1, AV.ref0]
  · simp -dsimp -implicitDefEqProofs [lt_f hge]
    have := all_of_take hge hall
    simp [BookOk, this]; omega
structure Way where
  Long : Int
  Bed : Int
  deriving DecidableEq, Inhabited
@[simp] def Way.enc (e : Way) : List C := [.i e.Long, .i e.Bed]
/-- Rows so far copied, the rest zero. -/
def partly {α : Type} (f : α → List C) (z : List C) (es : List α) (k : Nat) : List (List C) := (es.take k).map f ++ List.replicate (es.length - k) z
theorem partly_len {α : Type} {f : α → List C} {z : List C} {es : List α} {k : Nat} (h : k ≤ es.length) : (partly f z es k).length = es.length := by
  simp [partly]; omega
theorem partly_zero {α : Type} {f : α → List C} {z : List C} {es : List α} : partly f z es 0 = List.replicate es.length z := by simp [partly]
theorem partly_all {α : Type} {f : α → List C} {z : List C} {es : List α} {k : Nat} (h : es.length ≤ k) : partly f z es k = es.map f := by
  simp [partly, List.take_of_length_le h, Nat.sub_eq_zero_of_le h]
theorem partly_set {α : Type} {f : α → List C} {z : List C} {es : List α} {k : Nat} {e : α} (h : es[k]? = some e) : (partly f z es k).set k (f e) = partly f z es (k + 1) := by
  have hk := (List.getElem?_eq_some_iff.1 h).1
  have he := (List.getElem?_eq_some_iff.1 h).2
  unfold partly
  rw [List.set_append_right _ _ (by simp; omega)]
  have h1 : ((es.take k).map f).length = k := by simp; omega
  rw [h1, Nat.sub_self, show es.length - k = (es.length - (k + 1)) + 1 by omega, List.replicate_succ, List.set_cons_zero, List.take_succ_eq_append_getElem hk, he]
  simp
theorem partly_get {α : Type} {f : α → List C} {z : List C} {es : List α} {k n : Nat} (hz : z.length = n) (hf : ∀ e, (f e).length = n) (h : k < es.length) : ((partly f z es k)[k]?.getD []).length = n := by
  unfold partly
  rw [List.getElem?_append_right (by simp; omega)]
  have h1 : ((es.take k).map f).length = k := by simp; omega
  rw [h1, Nat.sub_self, List.getElem?_replicate, if_pos (by omega)]
  exact hz
theorem inI_succ {k n : Nat} (hk : k < n) (h : n ≤ maxLen) : inI ((k : Int) + 1) := by unfold maxLen at h; unfold inI; omega
abbrev ienc (n : Int) : List C := [.i n]
structure Tariff where
  Base : Int
  PerArea : Int
  PerClass : List Int
  Weights : List Int
  deriving DecidableEq
@[simp] def Tariff.enc (t : Tariff) : List C := [.i t.Base, .i t.PerArea, .sl 1 (t.PerClass.map ienc), .sl 1 (t.Weights.map ienc)]
def Tariff.small (t : Tariff) : Prop := t.PerClass.length ≤ 1048576 ∧ t.Weights.length ≤ 1048576
theorem sum_take {l : List Int} {k : Nat} {x : Int} (h : l[k]? = some x) : (l.take (k + 1)).sum = (l.take k).sum + x := by
  rw [List.take_succ, h]; simp
def sumTo (l : List Int) (k : Nat) : Int := (l.take k).sum
theorem sumTo_zero {l : List Int} : sumTo l 0 = 0 := rfl
theorem sumTo_succ {l : List Int} {k : Nat} {x : Int} (h : l[k]? = some x) : sumTo l (k + 1) = sumTo l k + x := sum_take h
theorem sumTo_all {l : List Int} {k : Nat} (h : l.length ≤ k) : sumTo l k = l.sum := by unfold sumTo; rw [List.take_of_length_le h]
def TariffOk (t : Tariff) : Bool := inRange t.Base 0 10000 && inRange t.PerArea 0 100 && decide (t.PerClass.length = 3) && inRange t.Weights.length 1 11 &&
  t.PerClass.all (fun n => inRange n 0 10000) && t.Weights.all (fun n => inRange n 0 1000) && decide (0 < t.Weights.sum)
theorem inRange_iff {n a b : Int} : inRange n a b = true ↔ a ≤ n ∧ n ≤ b := by simp [inRange]
theorem inRange_not {n a b : Int} : inRange n a b = false ↔ n < a ∨ b < n := by
  simp only [inRange, Bool.and_eq_false_iff, decide_eq_false_iff_not]; omega
theorem sum_bound : ∀ {l : List Int} {b : Int}, (∀ x ∈ l, inRange x 0 b = true) → 0 ≤ l.sum ∧ l.sum ≤ b * l.length
  | [], b, _ => by simp
  | x :: l, b, h => by
    have h1 := sum_bound (l := l) (b := b) fun y hy => h y (by simp [hy])
    have h2 := inRange_iff.1 (h x (by simp))
    simp only [List.sum_cons, List.length_cons, Int.natCast_add, Int.natCast_one, Int.mul_add, Int.mul_one]
    omega
theorem TariffOk_impl (t : Tariff) : PureF Try.prog n_impl_TariffOk [.agg (t.enc.map .c)] (.c (.b (TariffOk t))) := by
  refine pure_of h_impl_TariffOk (by simp) fun hwf => ?_
  simp -dsimp -implicitDefEqProofs [c_impl_TariffOk]
  refine call_lend (inRange_impl t.Base 0 10000) (by simp) rfl ?_
  simp -dsimp -implicitDefEqProofs
  refine ⟨fun h1 => ?_, fun h1 => by simp [TariffOk, h1]⟩
  refine call_lend (inRange_impl t.PerArea 0 100) (by simp) rfl ?_
  simp -dsimp -implicitDefEqProofs
  refine ⟨fun h2 => ?_, fun h2 => by simp [TariffOk, h2]⟩
  intro hc
  refine ⟨fun h3 hw => ⟨fun h4 _ => ⟨fun h5 => ?_, fun h5 _ => ?_⟩, fun h4 => ?_⟩, fun h3 => ?_⟩
  · have : inRange t.Weights.length 1 11 = false := inRange_not.2 (by omega)
    simp [TariffOk, this]
  · have h3' : t.PerClass.length = 3 := by omega
    have h6 : inRange t.Weights.length 1 11 = true := inRange_iff.2 (by omega)
    refine loop_rule (ι := Nat) (fun k => k ≤ t.PerClass.length ∧ ∀ n ∈ t.PerClass.take k, inRange n 0 10000 = true) (fun k => stOf [(1, .box 1 0), (37, .c (.sl 1 (t.PerClass.map ienc))), (38, .c (.i t.PerClass.length)), (39, .c (.i k))] [(1, .box (t.enc.map .c))]) (fun k => t.PerClass.length - k) 0 (by simp) (by apply le_of <;> simp [AV.refs1, AV.ref0, Obj.refs1]) ?_
    rintro k ⟨hk, hall⟩
    rcases Nat.lt_or_ge k t.PerClass.length with hlt | hge
    · obtain ⟨e, he⟩ : ∃ e, t.PerClass[k]? = some e := ⟨_, List.getElem?_eq_getElem hlt⟩
      simp -dsimp -implicitDefEqProofs [he, lt_t hlt]
      refine call_lend (inRange_impl e 0 10000) (by simp) rfl ?_
      simp -dsimp -implicitDefEqProofs
      refine ⟨fun h1 => by simp [TariffOk, all_false (p := fun n => inRange n 0 10000) he h1], fun h1 => ?_⟩
      exact ⟨inI_succ hlt hc, k + 1, ⟨by omega, all_take_succ (p := fun n => inRange n 0 10000) he hall h1⟩, by omega, by apply le_of <;> simp [AV.refs1, AV.ref0, Obj.refs1]⟩
    · have h7 := all_of_take (p := fun n => inRange n 0 10000) hge hall
      simp -dsimp -implicitDefEqProofs [lt_f hge]
      intro _
      refine loop_rule (ι := Nat) (fun k => k ≤ t.Weights.length ∧ ∀ n ∈ t.Weights.take k, inRange n 0 1000 = true) (fun k => stOf [(5, .c (.i (t.Weights.take k).sum)), (48, .c (.sl 1 (t.Weights.map ienc))), (49, .c (.i t.Weights.length)), (50, .c (.i k))] []) (fun k => t.Weights.length - k) 0 (by simp) (by apply le_of <;> simp [AV.refs1, AV.ref0, Obj.refs1]) ?_
      rintro k ⟨hk, hall⟩
      rcases Nat.lt_or_ge k t.Weights.length with hlt | hge
      · obtain ⟨e, he⟩ : ∃ e, t.Weights[k]? = some e := ⟨_, List.getElem?_eq_getElem hlt⟩
        simp -dsimp -implicitDefEqProofs [he, lt_t hlt]
        refine call_lend (inRange_impl e 0 1000) (by simp) rfl ?_
        simp -dsimp -implicitDefEqProofs [he, lt_t hlt]
        refine ⟨fun h1 => by simp [TariffOk, all_false (p := fun n => inRange n 0 1000) he h1], fun h1 => ?_⟩
        have hs := sum_bound hall
        have hx := inRange_iff.1 h1
        have hl : (t.Weights.take k).length ≤ 11 := by simp; omega
        exact ⟨by unfold inI; omega, inI_succ hlt hw, k + 1, ⟨by omega, all_take_succ (p := fun n => inRange n 0 1000) he hall h1⟩, by omega, by apply le_of <;> simp [AV.refs1, AV.ref0, Obj.refs1, sum_take he]⟩
      · have h8 := all_of_take (p := fun n => inRange n 0 1000) hge hall
        simp -dsimp -implicitDefEqProofs [lt_f hge]
        rw [List.take_of_length_le hge]
        simp [TariffOk, h1, h2, h3', h6, h7, h8]
  · have : inRange t.Weights.length 1 11 = false := inRange_not.2 (by omega)
    simp [TariffOk, this]
  · have : ¬ t.PerClass.length = 3 := by omega
    simp [TariffOk, this]
def smallS {α : Type} (sm : α → Prop) (xs : List α) : Prop := xs.length ≤ 1048576 ∧ ∀ x ∈ xs, sm x
structure Boat where
  Id : Int
  Length : Int
  Width : Int
  Draught : Int
  Speed : Int
  Class : Int
  deriving DecidableEq, Inhabited
@[simp] def Boat.enc (e : Boat) : List C := [.i e.Id, .i e.Length, .i e.Width, .i e.Draught, .i e.Speed, .i e.Class]
-- Boat
def small_BoatS : List Boat → Prop := smallS fun _ => True
abbrev enc_BoatS (xs : List Boat) : List C := [.sl 6 (xs.map Boat.enc)]
-- [][]Boat
def small_BoatSS : List (List Boat) → Prop := smallS small_BoatS
structure Train where
  Up : Bool
  Rows : List (List Boat)
  deriving DecidableEq, Inhabited
@[simp] def Train.enc (e : Train) : List C := [.b e.Up, .sl 1 (e.Rows.map enc_BoatS)]
-- Train
def Train.small (e : Train) : Prop := small_BoatSS e.Rows
structure Mover where
  Train : Train
  Place : Int
  deriving DecidableEq, Inhabited
@[simp] def Mover.enc (e : Mover) : List C := [.b e.Train.Up, .sl 1 (e.Train.Rows.map enc_BoatS), .i e.Place]
-- Mover
def Mover.small (e : Mover) : Prop := e.Train.small
theorem flat_len {α : Type} {B : Nat} : ∀ {l : List (List α)}, (∀ r ∈ l, r.length ≤ B) → l.flatten.length ≤ l.length * B
  | [], _ => by simp
  | r :: l, h => by
    have h1 := flat_len (l := l) fun x hx => h x (by simp [hx])
    have h2 := h r (by simp)
    simp only [List.flatten_cons, List.length_append, List.length_cons, Nat.add_mul, Nat.one_mul]
    omega
/-- The elements of the first k. -/
def heads {α : Type} (l : List (List α)) (k : Nat) : List α := (l.take k).flatten
theorem heads_zero {α : Type} {l : List (List α)} : heads l 0 = [] := rfl
theorem heads_succ {α : Type} {l : List (List α)} {k : Nat} {r : List α} (h : l[k]? = some r) : heads l (k + 1) = heads l k ++ r := by
  unfold heads; rw [List.take_succ, h]; simp
theorem heads_all {α : Type} {l : List (List α)} {k : Nat} (h : l.length ≤ k) : heads l k = l.flatten := by
  unfold heads; rw [List.take_of_length_le h]
theorem heads_bound {α : Type} {l : List (List α)} (h : smallS (smallS fun _ : α => True) l) (k : Nat) : (heads l k).length ≤ 1099511627776 := by
  have h1 := flat_len (l := l.take k) (B := 1048576) fun r hr => (h.2 r (List.mem_of_mem_take hr)).1
  have h2 := h.1
  have h3 : (l.take k).length ≤ 1048576 := by simp; omega
  have h4 := Nat.mul_le_mul_right 1048576 h3
  unfold heads
  omega
def Train.boats (t : Train) : List Boat := t.Rows.flatten
theorem boats_le {t : Train} (h : t.small) : t.boats.length ≤ 1099511627776 := by
  have := heads_bound h t.Rows.length
  rwa [heads_all (Nat.le_refl _)] at this
theorem l04Boats_c (t : Train) (h : t.small) : PureF Try.prog n_spec_l04Boats [.agg (t.enc.map .c)] (.c (.sl 6 (t.boats.map Boat.enc))) := by
  refine pure_of h_spec_l04Boats (by simp) fun hwf => ?_
  simp -dsimp -implicitDefEqProofs [c_spec_l04Boats]
  refine loop_rule (ι := Nat) (fun k => k ≤ t.Rows.length) (fun k => stOf [(1, .box 1 0), (3, .own 5 6 (heads t.Rows k).length), (4, .c (.i k))] [(1, .box (t.enc.map .c)), (5, .row 6 ((heads t.Rows k).map Boat.enc))]) (fun k => t.Rows.length - k) 0 (by simp) (by apply le_of <;> simp [AV.refs1, AV.ref0, Obj.refs1, heads_zero]) ?_
  rintro k hk
  rcases Nat.lt_or_ge k t.Rows.length with hlt | hge
  · obtain ⟨r, hr⟩ : ∃ r, t.Rows[k]? = some r := ⟨_, List.getElem?_eq_getElem hlt⟩
    have hb := heads_bound h (k + 1)
    have hf := heads_succ hr
    rw [hf, List.length_append] at hb
    have hm := h.1
    simp -dsimp -implicitDefEqProofs [hr, lt_t hlt]
    intro hlen
    refine ⟨by omega, inI_succ hlt hlen, k + 1, hlt, by omega, ?_⟩
    apply le_of <;> simp [AV.refs1, AV.ref0, Obj.refs1, hf]
  · simp -dsimp -implicitDefEqProofs [lt_f hge]
    rw [heads_all hge]
    intro _
    rw [List.take_of_length_le (by rw [List.length_map]; exact Nat.le_refl _)]; rfl
def BoatOk (b : Boat) : Bool := inRange b.Id 1 9999 && inRange b.Length 1 200 && inRange b.Width 1 30 && inRange b.Draught 1 100 && inRange b.Speed 1 50 && inRange b.Class 0 2
theorem BoatOk_spec (b : Boat) : PureF Try.prog n_spec_BoatOk [.agg (b.enc.map .c)] (.c (.b (BoatOk b))) := by
  refine pure_of h_spec_BoatOk (by simp) fun hwf => ?_
  simp -dsimp -implicitDefEqProofs [c_spec_BoatOk]
  refine call_lend (inRange_spec b.Id 1 9999) (by simp) rfl ?_
  simp -dsimp -implicitDefEqProofs
  refine ⟨fun h => ?_, fun h => by simp [BoatOk, h]⟩
  refine call_lend (inRange_spec b.Length 1 200) (by simp) rfl ?_
  simp -dsimp -implicitDefEqProofs
  refine ⟨fun h1 => ?_, fun h1 => by simp [BoatOk, h1]⟩
  refine call_lend (inRange_spec b.Width 1 30) (by simp) rfl ?_
  simp -dsimp -implicitDefEqProofs
  refine ⟨fun h2 => ?_, fun h1 => by simp [BoatOk, h1]⟩
  refine call_lend (inRange_spec b.Draught 1 100) (by simp) rfl ?_
  simp -dsimp -implicitDefEqProofs
  refine ⟨fun h3 => ?_, fun h1 => by simp [BoatOk, h1]⟩
  refine call_lend (inRange_spec b.Speed 1 50) (by simp) rfl ?_
  simp -dsimp -implicitDefEqProofs
  refine ⟨fun h4 => ?_, fun h1 => by simp [BoatOk, h1]⟩
  refine call_lend (inRange_spec b.Class 0 2) (by simp) rfl ?_
  simp -dsimp -implicitDefEqProofs
  simp [BoatOk, h, h1, h2, h3, h4]
theorem BoatOk_impl (b : Boat) : PureF Try.prog n_impl_BoatOk [.agg (b.enc.map .c)] (.c (.b (BoatOk b))) := by
  refine pure_of h_impl_BoatOk (by simp) fun hwf => ?_
  simp -dsimp -implicitDefEqProofs [c_impl_BoatOk]
  refine call_lend (inRange_impl b.Id 1 9999) (by simp) rfl ?_
  simp -dsimp -implicitDefEqProofs
  refine ⟨fun h => ?_, fun h => by simp [BoatOk, h]⟩
  refine call_lend (inRange_impl b.Length 1 200) (by simp) rfl ?_
  simp -dsimp -implicitDefEqProofs
  refine ⟨fun h1 => ?_, fun h1 => by simp [BoatOk, h1]⟩
  refine call_lend (inRange_impl b.Width 1 30) (by simp) rfl ?_
  simp -dsimp -implicitDefEqProofs
  refine ⟨fun h2 => ?_, fun h1 => by simp [BoatOk, h1]⟩
  refine call_lend (inRange_impl b.Draught 1 100) (by simp) rfl ?_
  simp -dsimp -implicitDefEqProofs
  refine ⟨fun h3 => ?_, fun h1 => by simp [BoatOk, h1]⟩
  refine call_lend (inRange_impl b.Speed 1 50) (by simp) rfl ?_
  simp -dsimp -implicitDefEqProofs
  refine ⟨fun h4 => ?_, fun h1 => by simp [BoatOk, h1]⟩
  refine call_lend (inRange_impl b.Class 0 2) (by simp) rfl ?_
  simp -dsimp -implicitDefEqProofs
  simp [BoatOk, h, h1, h2, h3, h4]
/-- Place of n in a list, or -1. -/
def indexOf (l : List Int) (n : Int) : Int := match l.findIdx? (fun x => n == x) with | some i => i | none => -1
theorem indexOf_nonneg {l : List Int} {n : Int} : (0 ≤ indexOf l n) = (n ∈ l) := by
  unfold indexOf
  cases h : l.findIdx? (fun x => n == x) with
  | none =>
    rw [List.findIdx?_eq_none_iff] at h
    show (0 ≤ (-1 : Int)) = _
    simp only [eq_iff_iff]
    refine ⟨fun h1 => by omega, fun hm => ?_⟩
    have := h n hm
    simp at this
  | some i =>
    rw [List.findIdx?_eq_some_iff_getElem] at h
    obtain ⟨hi, h1, _⟩ := h
    simp only [eq_iff_iff]
    refine ⟨fun _ => ?_, fun _ => by omega⟩
    have : n = l[i] := by simpa using h1
    rw [this]; exact List.getElem_mem _
theorem indexOf_at {l : List Int} {n : Int} {k : Nat} (h : l[k]? = some n) (hn : ∀ x ∈ l.take k, n ≠ x) : indexOf l n = k := by
  unfold indexOf
  have : l.findIdx? (fun x => n == x) = some k := by
    rw [List.findIdx?_eq_some_iff_getElem]
    obtain ⟨hk1, hk2⟩ := List.getElem?_eq_some_iff.1 h
    refine ⟨hk1, by simp [hk2], fun j hj => ?_⟩
    have := hn (l[j]'(by omega)) (List.mem_take_iff_getElem.2 ⟨j, by omega, rfl⟩)
    simpa using this
  rw [this]
theorem indexOf_no {l : List Int} {n : Int} {k : Nat} (hk : l.length ≤ k) (hn : ∀ x ∈ l.take k, n ≠ x) : indexOf l n = -1 := by
  rw [List.take_of_length_le hk] at hn
  unfold indexOf
  have : l.findIdx? (fun x => n == x) = none := by
    rw [List.findIdx?_eq_none_iff]
    intro x hx
    simpa using hn x hx
  rw [this]
theorem takes_ne {l : List Int} {n x : Int} {k : Nat} (h : l[k]? = some x) (hx : n ≠ x) (hn : ∀ x ∈ l.take k, n ≠ x) : ∀ x ∈ l.take (k + 1), n ≠ x := by
  intro y hy
  rw [List.take_succ, h] at hy
  rcases List.mem_append.1 hy with h1 | h1
  · exact hn y h1
  · simp at h1; rw [h1]; exact hx
theorem Index_c (l : List Int) (n : Int) : PureF Try.prog n_slices_Index___int_int_ [.c (.sl 1 (l.map ienc)), .c (.i n)] (.c (.i (indexOf l n))) := by
  refine pure_of h_slices_Index___int_int_ (by simp) fun hwf => ?_
  simp -dsimp -implicitDefEqProofs [c_slices_Index___int_int_]
  intro hlen
  refine loop_rule (ι := Nat) (fun k => k ≤ l.length ∧ ∀ x ∈ l.take k, n ≠ x) (fun k => stOf [(0, .c (.sl 1 (l.map ienc))), (1, .c (.i n)), (7, .c (.i l.length)), (8, .c (.i k))] []) (fun k => l.length - k) 0 (by simp) (by apply le_of <;> simp [AV.refs1, AV.ref0, Obj.refs1]) ?_
  rintro k ⟨hk, hn⟩
  rcases Nat.lt_or_ge k l.length with hlt | hge
  · obtain ⟨x, hx⟩ : ∃ x, l[k]? = some x := ⟨_, List.getElem?_eq_getElem hlt⟩
    simp -dsimp -implicitDefEqProofs [hx, lt_t hlt]
    refine ⟨fun h => ?_, fun h => ⟨inI_succ hlt hlen, k + 1, ⟨hlt, takes_ne hx h hn⟩, by omega, by apply le_of <;> simp [AV.refs1, AV.ref0, Obj.refs1]⟩⟩
    exact indexOf_at (h ▸ hx) hn
  · simp -dsimp -implicitDefEqProofs [lt_f hge]
    exact indexOf_no hge hn
theorem Contains_c (l : List Int) (n : Int) : PureF Try.prog n_slices_Contains___int_int_ [.c (.sl 1 (l.map ienc)), .c (.i n)] (.c (.b (decide (n ∈ l)))) := by
  refine pure_of h_slices_Contains___int_int_ (by simp) fun hwf => ?_
  simp -dsimp -implicitDefEqProofs [c_slices_Contains___int_int_]
  refine call_lend (Index_c l n) (by simp) rfl ?_
  simp -dsimp -implicitDefEqProofs [indexOf_nonneg]
def idOf (b : Boat) : Int := b.Id
def full (r : List Boat) : Bool := decide (r.length ≠ 0)
theorem full_iff {r : List Boat} : full r = true ↔ r.length ≠ 0 := by simp [full]
def TrainOk (t : Train) : Bool := t.Rows.all full && t.boats.all BoatOk && decide ((t.boats.map idOf).Nodup) && inRange t.boats.length 1 6
theorem nodup_take {l : List Boat} {k : Nat} {b : Boat} (h : l[k]? = some b) : (((l.take (k + 1)).map idOf).Nodup ↔ ((l.take k).map idOf).Nodup ∧ b.Id ∉ (l.take k).map idOf) := by
  rw [List.take_succ, h, List.map_append]
  simp only [Option.toList_some, List.map_cons, List.map_nil, List.nodup_append, List.nodup_cons, List.not_mem_nil, not_false_eq_true, List.nodup_nil, and_self, true_and, List.mem_singleton, forall_eq, idOf]
  constructor
  · rintro ⟨h1, h2⟩; exact ⟨h1, fun hm => h2 _ hm rfl⟩
  · rintro ⟨h1, h2⟩; exact ⟨h1, fun x hx e => h2 (e ▸ hx)⟩
theorem not_nodup {l : List Boat} {k : Nat} (h : ¬ ((l.take k).map idOf).Nodup) : ¬ (l.map idOf).Nodup := by
  intro hn
  refine h ?_
  rw [← List.take_append_drop k l, List.map_append] at hn
  exact (List.nodup_append.1 hn).1
def idsTo (l : List Boat) (k : Nat) : List Int := (l.take k).map idOf
theorem TrainOk_spec (t : Train) (h : t.small) : PureF Try.prog n_spec_TrainOk [.agg (t.enc.map .c)] (.c (.b (TrainOk t))) := by
  refine pure_of h_spec_TrainOk (by simp) fun hwf => ?_
  simp -dsimp -implicitDefEqProofs [c_spec_TrainOk]
  refine call_pure (l04Boats_c t h) (by simp) rfl ?_
  simp -dsimp -implicitDefEqProofs
  refine loop_rule (ι := Nat) (fun k => k ≤ t.Rows.length ∧ ∀ r ∈ t.Rows.take k, full r = true) (fun k => stOf [(1, .box 1 0), (3, .c (.sl 6 (t.boats.map Boat.enc))), (4, .c (.i k))] [(1, .box (t.enc.map .c))]) (fun k => t.Rows.length - k) 0 (by simp) (by apply le_of <;> simp [AV.refs1, AV.ref0, Obj.refs1]) ?_
  rintro k ⟨hk, hall⟩
  rcases Nat.lt_or_ge k t.Rows.length with hlt | hge
  · obtain ⟨r, hr⟩ : ∃ r, t.Rows[k]? = some r := ⟨_, List.getElem?_eq_getElem hlt⟩
    simp -dsimp -implicitDefEqProofs [hr, lt_t hlt]
    intro hlen _
    refine ⟨fun h0 => ?_, fun h0 => ?_⟩
    · have : t.Rows.all full = false := all_false (p := full) hr (by simp [full, h0])
      simp only [TrainOk, this, Bool.false_and]
    · exact ⟨inI_succ hlt hlen, k + 1, ⟨by omega, all_take_succ (p := full) hr hall (by simp [full, h0])⟩, by omega, by apply le_of <;> simp [AV.refs1, AV.ref0, Obj.refs1]⟩
  · have hrows := all_of_take (p := full) hge hall
    simp -dsimp -implicitDefEqProofs [lt_f hge]
    intro _
    have hbl := boats_le h
    refine loop_rule (ι := Nat) (fun k => k ≤ t.boats.length ∧ (∀ b ∈ t.boats.take k, BoatOk b = true) ∧ (idsTo t.boats k).Nodup) (fun k => stOf [(3, .c (.sl 6 (t.boats.map Boat.enc))), (5, .c (.i k))] []) (fun k => t.boats.length - k) 0 (by simp [idsTo]) (by apply le_of <;> simp [AV.refs1, AV.ref0, Obj.refs1]) ?_
    rintro k ⟨hk, hok, hnd⟩
    have fin : t.boats.length ≤ 6 → k = t.boats.length → TrainOk t = inRange t.boats.length 1 6 := by
      intro h6 e
      have h1 := all_of_take (p := BoatOk) (by omega) hok
      rw [e, idsTo, List.take_length] at hnd
      simp [TrainOk, hrows, h1, hnd]
    rcases Nat.lt_or_ge k t.boats.length with hlt | hge
    · obtain ⟨b, hb⟩ : ∃ b, t.boats[k]? = some b := ⟨_, List.getElem?_eq_getElem hlt⟩
      by_cases h6 : t.boats.length ≤ 6
      · have h6' : ((t.boats.length : Int) ≤ 6) = True := by simp; omega
        simp -dsimp -implicitDefEqProofs [hb, lt_t hlt, h6']
        intro hlen
        refine call_lend (BoatOk_spec b) (by simp) rfl ?_
        simp -dsimp -implicitDefEqProofs
        refine ⟨fun h1 => ?_, fun h1 => ?_⟩
        · have : t.boats.all BoatOk = false := all_false (p := BoatOk) hb h1
          simp only [TrainOk, this, Bool.false_and, Bool.and_false]
        have hok' := all_take_succ (p := BoatOk) hb hok h1
        refine loop_rule (ι := Nat) (fun i => i ≤ k ∧ b.Id ∉ idsTo t.boats i) (fun i => stOf [(3, .c (.sl 6 (t.boats.map Boat.enc))), (5, .c (.i k)), (6, .c (.i i))] []) (fun i => k - i) 0 (by simp [idsTo]) (by apply le_of <;> simp [AV.refs1, AV.ref0, Obj.refs1]) ?_
        rintro i ⟨hi, hni⟩
        rcases Nat.lt_or_ge i k with hlt2 | hge2
        · obtain ⟨c, hc⟩ : ∃ c, t.boats[i]? = some c := ⟨_, List.getElem?_eq_getElem (by omega)⟩
          have hi3 : (i : Int) < t.boats.length := by omega
          simp -dsimp -implicitDefEqProofs [hb, hc, lt_t hlt, lt_t hlt2, hi3]
          refine ⟨fun h2 => ?_, fun h2 => ?_⟩
          · have : ¬ (t.boats.map idOf).Nodup := by
              refine not_nodup (k := k + 1) fun hn => ?_
              refine ((nodup_take hb).1 hn).2 ?_
              rw [← h2]
              exact List.mem_map.2 ⟨c, List.mem_iff_getElem?.2 ⟨i, by rw [List.getElem?_take, if_pos hlt2]; exact hc⟩, rfl⟩
            simp [TrainOk, this]
          · refine ⟨by unfold inI; omega, i + 1, ⟨hlt2, ?_⟩, by omega, by apply le_of <;> simp [AV.refs1, AV.ref0, Obj.refs1]⟩
            rw [idsTo, List.take_succ, hc, List.map_append]
            simp only [List.mem_append, Option.toList_some, List.map_cons, List.map_nil, List.mem_singleton, idOf]
            rintro (h3 | h3)
            · exact hni h3
            · exact h2 h3.symm
        · simp -dsimp -implicitDefEqProofs [lt_f hge2]
          have e : i = k := by omega
          rw [e] at hni
          exact ⟨by unfold inI; omega, k + 1, ⟨hlt, hok', (nodup_take hb).2 ⟨hnd, hni⟩⟩, by omega, by apply le_of <;> simp [AV.refs1, AV.ref0, Obj.refs1]⟩
      · have h6' : ((t.boats.length : Int) ≤ 6) = False := by simp; omega
        simp -dsimp -implicitDefEqProofs [hb, lt_t hlt, h6']
        intro hlen
        refine call_lend (inRange_spec t.boats.length 1 6) (by simp) rfl ?_
        simp -dsimp -implicitDefEqProofs
        have h7 : inRange t.boats.length 1 6 = false := inRange_not.2 (by omega)
        simp only [TrainOk, h7, Bool.and_false]
    · simp -dsimp -implicitDefEqProofs [lt_f hge]
      intro hlen
      refine call_lend (inRange_spec t.boats.length 1 6) (by simp) rfl ?_
      simp -dsimp -implicitDefEqProofs
      by_cases h6 : t.boats.length ≤ 6
      · rw [fin h6 (by omega)]
      · have h7 : inRange t.boats.length 1 6 = false := inRange_not.2 (by omega)
        simp only [TrainOk, h7, Bool.and_false]
theorem boats_split {t : Train} {k : Nat} {r : List Boat} (h : t.Rows[k]? = some r) : ∃ m, t.boats = heads t.Rows k ++ r ++ m := by
  refine ⟨(t.Rows.drop (k + 1)).flatten, ?_⟩
  unfold Train.boats
  conv => lhs; rw [← List.take_append_drop (k + 1) t.Rows]
  rw [List.flatten_append, ← heads_succ h]; rfl
theorem tf_full {t : Train} {k : Nat} {r : List Boat} (h : t.Rows[k]? = some r) (h0 : r.length = 0) : TrainOk t = false := by
  have : t.Rows.all full = false := all_false (p := full) h (by simp [full, h0])
  simp only [TrainOk, this, Bool.false_and]
theorem tf_len {t : Train} (h : 6 < t.boats.length) : TrainOk t = false := by
  have h7 : inRange t.boats.length 1 6 = false := inRange_not.2 (by omega)
  simp only [TrainOk, h7, Bool.and_false]
theorem tf_boat {t : Train} {b : Boat} (hb : b ∈ t.boats) (h : BoatOk b = false) : TrainOk t = false := by
  obtain ⟨i, hi⟩ := List.getElem?_of_mem hb
  have : t.boats.all BoatOk = false := all_false (p := BoatOk) hi h
  simp only [TrainOk, this, Bool.false_and, Bool.and_false]
theorem tf_ids {t : Train} (h : ¬ (t.boats.map idOf).Nodup) : TrainOk t = false := by simp [TrainOk, h]
/-- The array of the Ids that were met. -/
def seenOf (l : List Boat) : List (List C) := (l.map idOf).map ienc ++ List.replicate (6 - l.length) [.i 0]
theorem seen_len {l : List Boat} (h : l.length ≤ 6) : (seenOf l).length = 6 := by simp [seenOf]; omega
theorem seen_take {l : List Boat} {n : Nat} (h : n = l.length) : (seenOf l).take n = (l.map idOf).map ienc := by
  subst h; unfold seenOf; rw [List.take_append_of_le_length (by simp), List.take_of_length_le (by simp)]
theorem seen_set {l : List Boat} {b : Boat} (h : l.length < 6) : (seenOf l).set l.length [.i b.Id] = seenOf (l ++ [b]) := by
  unfold seenOf
  rw [List.set_append_right _ _ (by simp)]
  have h1 : ((l.map idOf).map ienc).length = l.length := by simp
  rw [h1, Nat.sub_self, show 6 - l.length = (6 - (l.length + 1)) + 1 by omega, List.replicate_succ, List.set_cons_zero]
  simp [idOf]
theorem seen_get {l : List Boat} (h : l.length < 6) : (seenOf l)[l.length]?.getD [] = [.i 0] := by
  unfold seenOf
  rw [List.getElem?_append_right (by simp)]
  have h1 : ((l.map idOf).map ienc).length = l.length := by simp
  rw [h1, Nat.sub_self, List.getElem?_replicate, if_pos (by omega)]; rfl
theorem seen_nil : seenOf [] = List.replicate 6 [.i 0] := rfl
/-- What holds of the boats met so far. -/
structure Met (l : List Boat) : Prop where
  ok : ∀ b ∈ l, BoatOk b = true
  nd : (l.map idOf).Nodup
  len : l.length ≤ 6
theorem Met.snoc {l : List Boat} {b : Boat} (h : Met l) (h1 : BoatOk b = true) (h2 : b.Id ∉ l.map idOf) (h3 : l.length < 6) : Met (l ++ [b]) := by
  refine ⟨?_, ?_, by simp; omega⟩
  · intro x hx
    rcases List.mem_append.1 hx with hx | hx
    · exact h.ok x hx
    · rw [List.mem_singleton.1 hx]; exact h1
  · have := @nodup_take (l ++ [b]) l.length b (by simp)
    rw [show l.length + 1 = (l ++ [b]).length by simp, List.take_length] at this
    rw [this, List.take_left']
    · exact ⟨h.nd, h2⟩
    · rfl
def soFar (t : Train) (k : Nat) (r : List Boat) (j : Nat) : List Boat := heads t.Rows k ++ r.take j
theorem soFar_zero {t : Train} {k : Nat} {r : List Boat} : soFar t k r 0 = heads t.Rows k := by simp [soFar]
theorem soFar_succ {t : Train} {k : Nat} {r : List Boat} {j : Nat} {b : Boat} (h : r[j]? = some b) : soFar t k r (j + 1) = soFar t k r j ++ [b] := by
  unfold soFar; rw [List.take_succ, h]; simp
theorem soFar_all {t : Train} {k : Nat} {r : List Boat} {j : Nat} (hr : t.Rows[k]? = some r) (h : r.length ≤ j) : soFar t k r j = heads t.Rows (k + 1) := by
  unfold soFar; rw [List.take_of_length_le h, heads_succ hr]
theorem soFar_len {t : Train} {k : Nat} {r : List Boat} {j : Nat} (h : j ≤ r.length) : (soFar t k r j).length = (heads t.Rows k).length + j := by
  unfold soFar; simp; omega
theorem TrainOk_impl (t : Train) (h : t.small) : PureF Try.prog n_impl_TrainOk [.agg (t.enc.map .c)] (.c (.b (TrainOk t))) := by
  refine pure_of h_impl_TrainOk (by simp) fun hwf => ?_
  simp -dsimp -implicitDefEqProofs [c_impl_TrainOk]
  intro hlen
  refine ⟨fun h0 _ => ⟨fun h1 => ?_, fun h1 _ => ?_⟩, fun h0 => ?_⟩
  · by_cases h2 : TrainOk t = false
    · exact h2
    · exfalso
      have h3 : TrainOk t = true := by simpa using h2
      simp only [TrainOk, Bool.and_eq_true, List.all_eq_true] at h3
      obtain ⟨⟨⟨h4, _⟩, _⟩, h5⟩ := h3
      have h6 := inRange_iff.1 h5
      have : ∀ l : List (List Boat), (∀ r ∈ l, full r = true) → l.length ≤ l.flatten.length := by
        intro l
        induction l with
        | nil => simp
        | cons r l ih =>
          intro hl
          have e1 := ih fun x hx => hl x (by simp [hx])
          have e2 := full_iff.1 (hl r (by simp))
          simp only [List.length_cons, List.flatten_cons, List.length_append]; omega
      have := this t.Rows h4
      unfold Train.boats at h6
      omega
  · refine loop_rule (ι := Nat) (fun k => k ≤ t.Rows.length ∧ (∀ r ∈ t.Rows.take k, full r = true) ∧ Met (heads t.Rows k)) (fun k => stOf [(3, .row 3 1 0 0), (4, .c (.i (heads t.Rows k).length)), (20, .c (.sl 1 (t.Rows.map enc_BoatS))), (21, .c (.i t.Rows.length)), (22, .c (.i k))] [(3, .row 1 (seenOf (heads t.Rows k)))]) (fun k => t.Rows.length - k) 0 ⟨by simp, by simp, by simp [heads_zero], by simp [heads_zero], by simp [heads_zero]⟩ (by apply le_of <;> simp [AV.refs1, AV.ref0, Obj.refs1, heads_zero, seen_nil]) ?_
    rintro k ⟨hk, hall, hm⟩
    rcases Nat.lt_or_ge k t.Rows.length with hlt | hge
    · obtain ⟨r, hr⟩ : ∃ r, t.Rows[k]? = some r := ⟨_, List.getElem?_eq_getElem hlt⟩
      have hml := hm.len
      have hrs := (h.2 r (List.mem_of_getElem? hr)).1
      obtain ⟨rest, hsp⟩ := boats_split hr
      simp -dsimp -implicitDefEqProofs [hr, lt_t hlt]
      intro hrl
      refine ⟨fun hr0 _ => ⟨by unfold inI; omega, fun h6 => ?_, fun h6 _ => ?_⟩, fun hr0 => ?_⟩
      · refine tf_len ?_
        rw [hsp]; simp only [List.length_append]; omega
      · refine loop_rule (ι := Nat) (fun j => j ≤ r.length ∧ Met (soFar t k r j)) (fun j => stOf [(3, .row 3 1 0 0), (4, .c (.i (soFar t k r j).length)), (20, .c (.sl 1 (t.Rows.map enc_BoatS))), (21, .c (.i t.Rows.length)), (22, .c (.i k)), (36, .c (.sl 6 (r.map Boat.enc))), (37, .c (.i r.length)), (38, .c (.i j))] [(3, .row 1 (seenOf (soFar t k r j)))]) (fun j => r.length - j) 0 ⟨by simp, by rw [soFar_zero]; exact hm⟩ (by apply le_of <;> simp [AV.refs1, AV.ref0, Obj.refs1, soFar_zero]) ?_
        rintro j ⟨hj, hmj⟩
        rcases Nat.lt_or_ge j r.length with hlt2 | hge2
        · obtain ⟨b, hb⟩ : ∃ b, r[j]? = some b := ⟨_, List.getElem?_eq_getElem hlt2⟩
          have hsl := soFar_len (t := t) (k := k) hj
          have hlt6 : (soFar t k r j).length < 6 := by omega
          have hmem : b ∈ t.boats := by
            rw [hsp]; simp only [List.mem_append]; exact .inl (.inr (List.mem_of_getElem? hb))
          simp -dsimp -implicitDefEqProofs [hb, lt_t hlt2]
          refine ⟨_, _, BoatOk_impl b, by simp, .inr rfl, ?_⟩
          simp -dsimp -implicitDefEqProofs
          refine ⟨fun h2 => ?_, fun h2 => tf_boat hmem h2⟩
          have hsn := seen_len hmj.len
          refine ⟨by omega, hsn, ?_⟩
          refine ⟨_, _, Contains_c ((soFar t k r j).map idOf) b.Id, by simp [seen_take], .inr rfl, ?_⟩
          simp -dsimp -implicitDefEqProofs [lt_t hlt2, seen_get hlt6, seen_set hlt6]
          refine ⟨fun x hx he => tf_ids fun hn => ?_, fun h3 => ?_⟩
          · have hsp2 : t.boats = soFar t k r j ++ (b :: (r.drop (j + 1) ++ rest)) := by
              rw [hsp]; unfold soFar
              have : r = r.take j ++ b :: r.drop (j + 1) := by
                conv => lhs; rw [← List.take_append_drop j r]
                rw [List.drop_eq_getElem_cons hlt2, (List.getElem?_eq_some_iff.1 hb).2]
              conv => lhs; rw [this]
              simp
            rw [hsp2, List.map_append, List.map_cons] at hn
            exact (List.nodup_append.1 hn).2.2 _ (List.mem_map_of_mem hx) _ (List.mem_cons_self) he
          · have hni : b.Id ∉ (soFar t k r j).map idOf := by
              intro hm'
              obtain ⟨x, hx, he⟩ := List.mem_map.1 hm'
              exact h3 x hx he
            have hs1 := soFar_succ (t := t) (k := k) hb
            refine ⟨by omega, by omega, by unfold inI; omega, by unfold inI; omega, j + 1, ⟨hlt2, by rw [hs1]; exact hmj.snoc h2 hni hlt6⟩, by omega, ?_⟩
            apply le_of <;> simp [AV.refs1, AV.ref0, Obj.refs1, hs1]
        · simp -dsimp -implicitDefEqProofs [lt_f hge2]
          rw [soFar_all hr hge2] at hmj
          refine ⟨by unfold inI; omega, k + 1, ⟨hlt, all_take_succ (p := full) hr hall (by simp [full, hr0]), hmj⟩, by omega, ?_⟩
          apply le_of <;> simp [AV.refs1, AV.ref0, Obj.refs1, soFar_all hr hge2]
      · exact tf_full hr (by simp [hr0])
    · simp -dsimp -implicitDefEqProofs [lt_f hge]
      rw [heads_all hge] at hm
      have hr1 := all_of_take (p := full) hge hall
      have hb1 : t.boats.all BoatOk = true := List.all_eq_true.2 hm.ok
      have hl1 : 0 < t.boats.length := by
        obtain ⟨r, l, e⟩ := List.exists_cons_of_ne_nil h0
        have := full_iff.1 (List.all_eq_true.1 hr1 r (by rw [e]; simp))
        unfold Train.boats
        rw [e]; simp only [List.flatten_cons, List.length_append]; omega
      have hl2 : t.boats.length ≤ 6 := hm.len
      have h7 : inRange t.boats.length 1 6 = true := inRange_iff.2 (by omega)
      have hn1 : (t.boats.map idOf).Nodup := hm.nd
      simp [TrainOk, hr1, hb1, hn1, h7]
  · have : t.boats = [] := by simp [Train.boats, h0]
    have h7 : inRange t.boats.length 1 6 = false := by rw [this]; rfl
    simp only [TrainOk, h7, Bool.and_false]
/-- The greatest, the least of what the boats have. -/
def maxOf (f : Boat → Int) (l : List Boat) (z : Int) : Int := l.foldl (fun m b => if m < f b then f b else m) z
def minOf (f : Boat → Int) (l : List Boat) (z : Int) : Int := l.foldl (fun m b => if f b < m then f b else m) z
def maxTo (f : Boat → Int) (l : List Boat) (z : Int) (k : Nat) : Int := maxOf f (l.take k) z
def minTo (f : Boat → Int) (l : List Boat) (z : Int) (k : Nat) : Int := minOf f (l.take k) z
theorem maxTo_zero {f : Boat → Int} {l : List Boat} {z : Int} : maxTo f l z 0 = z := rfl
theorem minTo_zero {f : Boat → Int} {l : List Boat} {z : Int} : minTo f l z 0 = z := rfl
theorem maxTo_succ {f : Boat → Int} {l : List Boat} {z : Int} {k : Nat} {b : Boat} (h : l[k]? = some b) : maxTo f l z (k + 1) = if maxTo f l z k < f b then f b else maxTo f l z k := by
  unfold maxTo maxOf; rw [List.take_succ, h, List.foldl_append]; rfl
theorem minTo_succ {f : Boat → Int} {l : List Boat} {z : Int} {k : Nat} {b : Boat} (h : l[k]? = some b) : minTo f l z (k + 1) = if f b < minTo f l z k then f b else minTo f l z k := by
  unfold minTo minOf; rw [List.take_succ, h, List.foldl_append]; rfl
theorem maxTo_all {f : Boat → Int} {l : List Boat} {z : Int} {k : Nat} (h : l.length ≤ k) : maxTo f l z k = maxOf f l z := by
  unfold maxTo; rw [List.take_of_length_le h]
theorem minTo_all {f : Boat → Int} {l : List Boat} {z : Int} {k : Nat} (h : l.length ≤ k) : minTo f l z k = minOf f l z := by
  unfold minTo; rw [List.take_of_length_le h]
theorem maxOf_in {f : Boat → Int} {a b : Int} : ∀ {l : List Boat} {z : Int}, (∀ x ∈ l, a ≤ f x ∧ f x ≤ b) → a ≤ z → z ≤ b → a ≤ maxOf f l z ∧ maxOf f l z ≤ b
  | [], z, _, h1, h2 => ⟨h1, h2⟩
  | x :: l, z, h, h1, h2 => by
    have := h x (by simp)
    unfold maxOf
    rw [List.foldl_cons]
    refine maxOf_in (l := l) (fun y hy => h y (by simp [hy])) ?_ ?_ <;> split <;> omega
theorem minOf_in {f : Boat → Int} {a b : Int} : ∀ {l : List Boat} {z : Int}, (∀ x ∈ l, a ≤ f x ∧ f x ≤ b) → a ≤ z → z ≤ b → a ≤ minOf f l z ∧ minOf f l z ≤ b
  | [], z, _, h1, h2 => ⟨h1, h2⟩
  | x :: l, z, h, h1, h2 => by
    have := h x (by simp)
    unfold minOf
    rw [List.foldl_cons]
    refine minOf_in (l := l) (fun y hy => h y (by simp [hy])) ?_ ?_ <;> split <;> omega
structure TrainFacts (t : Train) : Prop where
  rows : ∀ r ∈ t.Rows, full r = true
  ok : ∀ b ∈ t.boats, BoatOk b = true
  nd : (t.boats.map idOf).Nodup
  pos : 1 ≤ t.boats.length
  len : t.boats.length ≤ 6
theorem trainFacts {t : Train} (h : TrainOk t = true) : TrainFacts t := by
  simp only [TrainOk, Bool.and_eq_true, List.all_eq_true, decide_eq_true_eq] at h
  obtain ⟨⟨⟨h1, h2⟩, h3⟩, h4⟩ := h
  have h5 := inRange_iff.1 h4
  exact ⟨h1, h2, h3, by omega, by omega⟩
theorem boatFacts {b : Boat} (h : BoatOk b = true) : (1 ≤ b.Id ∧ b.Id ≤ 9999) ∧ (1 ≤ b.Length ∧ b.Length ≤ 200) ∧ (1 ≤ b.Width ∧ b.Width ≤ 30) ∧ (1 ≤ b.Draught ∧ b.Draught ≤ 100) ∧ (1 ≤ b.Speed ∧ b.Speed ≤ 50) ∧ (0 ≤ b.Class ∧ b.Class ≤ 2) := by
  simp only [BoatOk, Bool.and_eq_true] at h
  obtain ⟨⟨⟨⟨⟨h1, h2⟩, h3⟩, h4⟩, h5⟩, h6⟩ := h
  exact ⟨inRange_iff.1 h1, inRange_iff.1 h2, inRange_iff.1 h3, inRange_iff.1 h4, inRange_iff.1 h5, inRange_iff.1 h6⟩
theorem boatsOf_c (t : Train) (h : t.small) : PureF Try.prog n_impl_boatsOf [.agg (t.enc.map .c)] (.c (.sl 6 (t.boats.map Boat.enc))) := by
  refine pure_of h_impl_boatsOf (by simp) fun hwf => ?_
  simp -dsimp -implicitDefEqProofs [c_impl_boatsOf]
  intro hlen
  refine virt_rule (k0 := 6) 3 6 (by simp) (by simp) (by decide) ?_
  refine loop_rule (ι := Nat) (fun k => k ≤ t.Rows.length) (fun k => stOf [(3, .own 3 6 (heads t.Rows k).length), (7, .c (.sl 1 (t.Rows.map enc_BoatS))), (8, .c (.i t.Rows.length)), (9, .c (.i k))] [(3, .row 6 ((heads t.Rows k).map Boat.enc))]) (fun k => t.Rows.length - k) 0 (by simp) (by apply le_of <;> simp [AV.refs1, AV.ref0, Obj.refs1, heads_zero]) ?_
  rintro k hk
  rcases Nat.lt_or_ge k t.Rows.length with hlt | hge
  · obtain ⟨r, hr⟩ : ∃ r, t.Rows[k]? = some r := ⟨_, List.getElem?_eq_getElem hlt⟩
    have hb := heads_bound h (k + 1)
    have hf := heads_succ hr
    rw [hf, List.length_append] at hb
    simp -dsimp -implicitDefEqProofs [hr, lt_t hlt]
    refine ⟨by omega, inI_succ hlt hlen, k + 1, hlt, by omega, ?_⟩
    apply le_of <;> simp [AV.refs1, AV.ref0, Obj.refs1, hf]
  · simp -dsimp -implicitDefEqProofs [lt_f hge]
    rw [heads_all hge]
    rw [List.take_of_length_le (by rw [List.length_map]; exact Nat.le_refl _)]; rfl
def DraughtOf (t : Train) : Int := if TrainOk t then maxOf Boat.Draught t.boats 0 else 0
def firstOf (f : Boat → Int) (l : List Boat) : Int := match l with | b :: _ => f b | [] => 0
theorem get0 {l : List Boat} {b : Boat} (h : l[0]? = some b) (f : Boat → Int) : firstOf f l = f b := by
  cases l with
  | nil => simp at h
  | cons x l => simp at h; rw [h]; rfl
theorem first_row {t : Train} (h : TrainFacts t) : ∃ r b, t.Rows[0]? = some r ∧ r[0]? = some b ∧ t.boats[0]? = some b := by
  have h1 := h.pos
  cases hr : t.Rows with
  | nil => unfold Train.boats at h1; rw [hr] at h1; simp at h1
  | cons r l =>
    have h2 := full_iff.1 (h.rows r (by rw [hr]; simp))
    cases r with
    | nil => simp at h2
    | cons b r => exact ⟨b :: r, b, rfl, rfl, by unfold Train.boats; rw [hr]; rfl⟩
def small_IntS : List Int → Prop := smallS fun _ => True
structure Point where
  X : Int
  Y : Int
  deriving DecidableEq, Inhabited
@[simp] def Point.enc (e : Point) : List C := [.i e.X, .i e.Y]
-- Point
def small_PointS : List Point → Prop := smallS fun _ => True
structure Reach where
  Table : List Point
  Volume : Int
  Pipe : List Int
  deriving DecidableEq, Inhabited
@[simp] def Reach.enc (e : Reach) : List C := [.sl 2 (e.Table.map Point.enc), .i e.Volume, .sl 1 (e.Pipe.map ienc)]
-- Reach
def Reach.small (e : Reach) : Prop := small_PointS e.Table ∧ small_IntS e.Pipe
theorem rows_le {t : Train} (h : TrainFacts t) : t.Rows.length ≤ 6 := by
  have : ∀ l : List (List Boat), (∀ r ∈ l, full r = true) → l.length ≤ l.flatten.length := by
    intro l
    induction l with
    | nil => simp
    | cons r l ih =>
      intro hl
      have e1 := ih fun x hx => hl x (by simp [hx])
      have e2 := full_iff.1 (hl r (by simp))
      simp only [List.length_cons, List.flatten_cons, List.length_append]; omega
  have h1 := this t.Rows h.rows
  have h2 := h.len
  unfold Train.boats at h2
  omega
theorem row_facts {t : Train} (h : TrainFacts t) {k : Nat} {r : List Boat} (hr : t.Rows[k]? = some r) : 1 ≤ r.length ∧ r.length ≤ 6 ∧ ∀ b ∈ r, BoatOk b = true := by
  have h1 := full_iff.1 (h.rows r (List.mem_of_getElem? hr))
  obtain ⟨m, e⟩ := boats_split hr
  have h2 := h.len
  rw [e] at h2
  simp only [List.length_append] at h2
  exact ⟨by omega, by omega, fun b hb => h.ok b (by rw [e]; simp [hb])⟩
/-- Sums over the first k. -/
def sumF {α : Type} (f : α → Int) (l : List α) (k : Nat) : Int := ((l.take k).map f).sum
theorem sumF_zero {α : Type} {f : α → Int} {l : List α} : sumF f l 0 = 0 := rfl
theorem sumF_succ {α : Type} {f : α → Int} {l : List α} {k : Nat} {x : α} (h : l[k]? = some x) : sumF f l (k + 1) = sumF f l k + f x := by
  unfold sumF; rw [List.take_succ, h, List.map_append, List.sum_append]; simp
theorem sumF_all {α : Type} {f : α → Int} {l : List α} {k : Nat} (h : l.length ≤ k) : sumF f l k = (l.map f).sum := by
  unfold sumF; rw [List.take_of_length_le h]
theorem sumF_in {α : Type} {f : α → Int} {l : List α} {c : Int} (hc : 0 ≤ c) (h : ∀ x ∈ l, 0 ≤ f x ∧ f x ≤ c) : ∀ k : Nat, 0 ≤ sumF f l k ∧ sumF f l k ≤ c * k
  | 0 => by simp [sumF_zero]
  | k + 1 => by
    have ih := sumF_in hc h k
    have e : c * ((k + 1 : Nat) : Int) = c * k + c := by rw [Int.natCast_add, Int.mul_add]; simp
    cases hk : l[k]? with
    | none =>
      have : l.length ≤ k := by simpa using hk
      have e2 : sumF f l (k + 1) = sumF f l k := by unfold sumF; rw [List.take_of_length_le (by omega), List.take_of_length_le this]
      rw [e2, e]; omega
    | some x =>
      have := h x (List.mem_of_getElem? hk)
      rw [sumF_succ hk, e]; omega
def rowLen (r : List Boat) : Int := maxOf Boat.Length r 0
def LengthOf (t : Train) : Int := if TrainOk t then (t.Rows.map rowLen).sum else 0
theorem rowLen_in {r : List Boat} (h : ∀ b ∈ r, BoatOk b = true) : 0 ≤ rowLen r ∧ rowLen r ≤ 200 :=
  maxOf_in (fun x hx => by have := boatFacts (h x hx); omega) (by omega) (by omega)
theorem lenTo_in {t : Train} (h : TrainFacts t) {k : Nat} (hk : k ≤ t.Rows.length) : 0 ≤ sumF rowLen t.Rows k ∧ sumF rowLen t.Rows k ≤ 1200 := by
  have h1 := sumF_in (f := rowLen) (l := t.Rows) (c := 200) (by omega) (fun r hr => by
    obtain ⟨i, hi⟩ := List.getElem?_of_mem hr
    exact rowLen_in (row_facts h hi).2.2) k
  have := rows_le h
  omega
theorem LengthOf_in (t : Train) : 0 ≤ LengthOf t ∧ LengthOf t ≤ 1200 := by
  unfold LengthOf
  split
  · rename_i h
    have := lenTo_in (trainFacts h) (Nat.le_refl _)
    rw [sumF_all (Nat.le_refl _)] at this; exact this
  · omega
theorem LengthOf_impl (t : Train) (h : t.small) : PureF Try.prog n_impl_LengthOf [.agg (t.enc.map .c)] (.c (.i (LengthOf t))) := by
  refine pure_of h_impl_LengthOf (by simp) fun hwf => ?_
  simp -dsimp -implicitDefEqProofs [c_impl_LengthOf]
  first
    | refine call_lend (TrainOk_impl t h) (by simp) rfl ?_
    | refine call_pure (TrainOk_impl t h) (by simp) rfl ?_
    | refine ⟨_, _, TrainOk_impl t h, by simp, .inr rfl, ?_⟩
    | refine ⟨_, _, TrainOk_impl t h, by simp, .inl rfl, ?_⟩
    | refine callE_pure (TrainOk_impl t h) (by simp) (.inr rfl) ?_
    | refine callE_pure (TrainOk_impl t h) (by simp) (.inl rfl) ?_
  simp -dsimp -implicitDefEqProofs
  refine ⟨fun h1 => by simp [LengthOf, h1], fun h1 hlen => ?_⟩
  have tf := trainFacts h1
  refine loop_rule (ι := Nat) (fun k => k ≤ t.Rows.length) (fun k => stOf [(3, .c (.i (sumF rowLen t.Rows k))), (13, .c (.sl 1 (t.Rows.map enc_BoatS))), (14, .c (.i t.Rows.length)), (15, .c (.i k))] []) (fun k => t.Rows.length - k) 0 (by simp) (by apply le_of <;> simp [AV.refs1, AV.ref0, Obj.refs1, sumF_zero]) ?_
  rintro k hk
  rcases Nat.lt_or_ge k t.Rows.length with hlt | hge
  · obtain ⟨r, hr⟩ : ∃ r, t.Rows[k]? = some r := ⟨_, List.getElem?_eq_getElem hlt⟩
    simp -dsimp -implicitDefEqProofs [hr, lt_t hlt]
    intro hrl
    refine loop_rule (ι := Nat) (fun j => j ≤ r.length) (fun j => stOf [(3, .c (.i (sumF rowLen t.Rows k))), (13, .c (.sl 1 (t.Rows.map enc_BoatS))), (14, .c (.i t.Rows.length)), (15, .c (.i k)), (6, .c (.i (maxTo Boat.Length r 0 j))), (19, .c (.sl 6 (r.map Boat.enc))), (20, .c (.i r.length)), (21, .c (.i j))] []) (fun j => r.length - j) 0 (by simp) (by apply le_of <;> simp [AV.refs1, AV.ref0, Obj.refs1, maxTo_zero]) ?_
    rintro j hj
    rcases Nat.lt_or_ge j r.length with hlt2 | hge2
    · obtain ⟨b, hb⟩ : ∃ b, r[j]? = some b := ⟨_, List.getElem?_eq_getElem hlt2⟩
      simp -dsimp -implicitDefEqProofs [hb, lt_t hlt2]
      refine ⟨inI_succ hlt2 hrl, j + 1, hlt2, by omega, ?_⟩
      apply le_of <;> simp [AV.refs1, AV.ref0, Obj.refs1, maxTo_succ hb]
    · simp -dsimp -implicitDefEqProofs [lt_f hge2]
      have b1 := lenTo_in tf hk
      have b2 := lenTo_in tf (show k + 1 ≤ t.Rows.length from hlt)
      have e := sumF_succ (f := rowLen) hr
      rw [maxTo_all hge2]
      have e' : sumF rowLen t.Rows (k + 1) = sumF rowLen t.Rows k + maxOf Boat.Length r 0 := e
      refine ⟨by unfold inI; omega, inI_succ hlt hlen, k + 1, hlt, by omega, ?_⟩
      apply le_of <;> simp [AV.refs1, AV.ref0, Obj.refs1, e']
  · simp -dsimp -implicitDefEqProofs [lt_f hge]
    simp [LengthOf, h1, sumF_all hge]
/-- The width. -/
def rowWid (r : List Boat) : Int := (r.map Boat.Width).sum
def maxR (l : List (List Boat)) : Int := l.foldl (fun m r => if m < rowWid r then rowWid r else m) 0
def maxRTo (l : List (List Boat)) (k : Nat) : Int := maxR (l.take k)
theorem maxRTo_zero {l : List (List Boat)} : maxRTo l 0 = 0 := rfl
theorem maxRTo_succ {l : List (List Boat)} {k : Nat} {r : List Boat} (h : l[k]? = some r) : maxRTo l (k + 1) = if maxRTo l k < rowWid r then rowWid r else maxRTo l k := by
  unfold maxRTo maxR; rw [List.take_succ, h, List.foldl_append]; rfl
theorem maxRTo_all {l : List (List Boat)} {k : Nat} (h : l.length ≤ k) : maxRTo l k = maxR l := by
  unfold maxRTo; rw [List.take_of_length_le h]
def WidthOf (t : Train) : Int := if TrainOk t then maxR t.Rows else 0
theorem widTo_in {r : List Boat} (h : ∀ b ∈ r, BoatOk b = true) (h6 : r.length ≤ 6) {k : Nat} (hk : k ≤ r.length) : 0 ≤ sumF Boat.Width r k ∧ sumF Boat.Width r k ≤ 180 := by
  have := sumF_in (f := Boat.Width) (l := r) (c := 30) (by omega) (fun b hb => by have := boatFacts (h b hb); omega) k
  omega
theorem maxR_in {l : List (List Boat)} (h : ∀ r ∈ l, 0 ≤ rowWid r ∧ rowWid r ≤ 180) : 0 ≤ maxR l ∧ maxR l ≤ 180 := by
  unfold maxR
  have : ∀ (l : List (List Boat)) (z : Int), (∀ r ∈ l, 0 ≤ rowWid r ∧ rowWid r ≤ 180) → 0 ≤ z → z ≤ 180 → 0 ≤ l.foldl (fun m r => if m < rowWid r then rowWid r else m) z ∧ l.foldl (fun m r => if m < rowWid r then rowWid r else m) z ≤ 180 := by
    intro l
    induction l with
    | nil => intro z _ h1 h2; exact ⟨h1, h2⟩
    | cons r l ih =>
      intro z h h1 h2
      have := h r (by simp)
      rw [List.foldl_cons]
      refine ih _ (fun y hy => h y (by simp [hy])) ?_ ?_ <;> split <;> omega
  exact this l 0 h (by omega) (by omega)
theorem WidthOf_in (t : Train) : 0 ≤ WidthOf t ∧ WidthOf t ≤ 180 := by
  unfold WidthOf
  split
  · rename_i h
    refine maxR_in fun r hr => ?_
    obtain ⟨i, hi⟩ := List.getElem?_of_mem hr
    obtain ⟨a1, a2, a3⟩ := row_facts (trainFacts h) hi
    have := widTo_in a3 a2 (Nat.le_refl _)
    rw [sumF_all (Nat.le_refl _)] at this; exact this
  · omega
theorem WidthOf_impl (t : Train) (h : t.small) : PureF Try.prog n_impl_WidthOf [.agg (t.enc.map .c)] (.c (.i (WidthOf t))) := by
  refine pure_of h_impl_WidthOf (by simp) fun hwf => ?_
  simp -dsimp -implicitDefEqProofs [c_impl_WidthOf]
  first
    | refine call_lend (TrainOk_impl t h) (by simp) rfl ?_
    | refine call_pure (TrainOk_impl t h) (by simp) rfl ?_
    | refine ⟨_, _, TrainOk_impl t h, by simp, .inr rfl, ?_⟩
    | refine ⟨_, _, TrainOk_impl t h, by simp, .inl rfl, ?_⟩
    | refine callE_pure (TrainOk_impl t h) (by simp) (.inr rfl) ?_
    | refine callE_pure (TrainOk_impl t h) (by simp) (.inl rfl) ?_
  simp -dsimp -implicitDefEqProofs
  refine ⟨fun h1 => by simp [WidthOf, h1], fun h1 hlen => ?_⟩
  have tf := trainFacts h1
  refine loop_rule (ι := Nat) (fun k => k ≤ t.Rows.length) (fun k => stOf [(3, .c (.i (maxRTo t.Rows k))), (13, .c (.sl 1 (t.Rows.map enc_BoatS))), (14, .c (.i t.Rows.length)), (15, .c (.i k))] []) (fun k => t.Rows.length - k) 0 (by simp) (by apply le_of <;> simp [AV.refs1, AV.ref0, Obj.refs1, maxRTo_zero]) ?_
  rintro k hk
  rcases Nat.lt_or_ge k t.Rows.length with hlt | hge
  · obtain ⟨r, hr⟩ : ∃ r, t.Rows[k]? = some r := ⟨_, List.getElem?_eq_getElem hlt⟩
    obtain ⟨a1, a2, a3⟩ := row_facts tf hr
    simp -dsimp -implicitDefEqProofs [hr, lt_t hlt]
    intro hrl
    refine loop_rule (ι := Nat) (fun j => j ≤ r.length) (fun j => stOf [(3, .c (.i (maxRTo t.Rows k))), (13, .c (.sl 1 (t.Rows.map enc_BoatS))), (14, .c (.i t.Rows.length)), (15, .c (.i k)), (6, .c (.i (sumF Boat.Width r j))), (19, .c (.sl 6 (r.map Boat.enc))), (20, .c (.i r.length)), (21, .c (.i j))] []) (fun j => r.length - j) 0 (by simp) (by apply le_of <;> simp [AV.refs1, AV.ref0, Obj.refs1, sumF_zero]) ?_
    rintro j hj
    rcases Nat.lt_or_ge j r.length with hlt2 | hge2
    · obtain ⟨b, hb⟩ : ∃ b, r[j]? = some b := ⟨_, List.getElem?_eq_getElem hlt2⟩
      have b1 := widTo_in a3 a2 (show j + 1 ≤ r.length from hlt2)
      have e := sumF_succ (f := Boat.Width) hb
      simp -dsimp -implicitDefEqProofs [hb, lt_t hlt2]
      refine ⟨by unfold inI; omega, inI_succ hlt2 hrl, j + 1, hlt2, by omega, ?_⟩
      apply le_of <;> simp [AV.refs1, AV.ref0, Obj.refs1, e]
    · simp -dsimp -implicitDefEqProofs [lt_f hge2]
      rw [sumF_all hge2]
      have e : maxRTo t.Rows (k + 1) = if maxRTo t.Rows k < (r.map Boat.Width).sum then (r.map Boat.Width).sum else maxRTo t.Rows k := maxRTo_succ hr
      refine ⟨inI_succ hlt hlen, k + 1, hlt, by omega, ?_⟩
      apply le_of <;> simp [AV.refs1, AV.ref0, Obj.refs1, e]
  · simp -dsimp -implicitDefEqProofs [lt_f hge]
    simp [WidthOf, h1, maxRTo_all hge]
def ClassOf (t : Train) : Int := if TrainOk t then minOf Boat.Class t.boats (firstOf Boat.Class t.boats) else -1
theorem ClassOf_in {t : Train} (h : TrainOk t = true) : 0 ≤ ClassOf t ∧ ClassOf t ≤ 2 := by
  unfold ClassOf
  rw [if_pos h]
  have hf := trainFacts h
  obtain ⟨r, b0, e1, e2, e3⟩ := first_row hf
  have := boatFacts (hf.ok b0 (List.mem_of_getElem? e3))
  exact minOf_in (fun x hx => by have := boatFacts (hf.ok x hx); omega) (by rw [get0 e3]; omega) (by rw [get0 e3]; omega)
theorem ClassOf_impl (t : Train) (h : t.small) : PureF Try.prog n_impl_ClassOf [.agg (t.enc.map .c)] (.c (.i (ClassOf t))) := by
  refine pure_of h_impl_ClassOf (by simp) fun hwf => ?_
  simp -dsimp -implicitDefEqProofs [c_impl_ClassOf]
  refine call_lend (TrainOk_impl t h) (by simp) rfl ?_
  simp -dsimp -implicitDefEqProofs
  refine ⟨fun h1 => by simp [ClassOf, h1], fun h1 => ?_⟩
  obtain ⟨r, b0, e1, e2, e3⟩ := first_row (trainFacts h1)
  have l1 : 0 < t.Rows.length := (List.getElem?_eq_some_iff.1 e1).1
  have l2 : 0 < r.length := (List.getElem?_eq_some_iff.1 e2).1
  have f1 := (List.getElem?_eq_some_iff.1 e1).2
  have f2 := (List.getElem?_eq_some_iff.1 e2).2
  simp -dsimp -implicitDefEqProofs [e1, e2, l1, l2, f1, f2]
  refine call_pure (boatsOf_c t h) (by simp) rfl ?_
  simp -dsimp -implicitDefEqProofs
  intro hlen
  refine loop_rule (ι := Nat) (fun k => k ≤ t.boats.length) (fun k => stOf [(3, .c (.i (minTo Boat.Class t.boats b0.Class k))), (17, .c (.sl 6 (t.boats.map Boat.enc))), (18, .c (.i t.boats.length)), (19, .c (.i k))] []) (fun k => t.boats.length - k) 0 (by simp) (by apply le_of <;> simp [AV.refs1, AV.ref0, Obj.refs1, minTo_zero]) ?_
  rintro k hk
  rcases Nat.lt_or_ge k t.boats.length with hlt | hge
  · obtain ⟨b, hb⟩ : ∃ b, t.boats[k]? = some b := ⟨_, List.getElem?_eq_getElem hlt⟩
    simp -dsimp -implicitDefEqProofs [hb, lt_t hlt]
    refine ⟨inI_succ hlt hlen, k + 1, hlt, by omega, ?_⟩
    apply le_of <;> simp [AV.refs1, AV.ref0, Obj.refs1, minTo_succ hb]
  · simp -dsimp -implicitDefEqProofs [lt_f hge]
    simp [ClassOf, h1, minTo_all hge, get0 e3]
theorem take_all0 {α β : Type} {f : α → β} {l : List α} : (l.map f).take l.length = l.map f := List.take_of_length_le (by simp)
def IdsOf (t : Train) : List Int := if TrainOk t then t.boats.map idOf else []
def idsTo2 (t : Train) (k : Nat) : List Int := (t.boats.take k).map idOf
theorem idsTo2_zero {t : Train} : idsTo2 t 0 = [] := rfl
theorem idsTo2_succ {t : Train} {k : Nat} {b : Boat} (h : t.boats[k]? = some b) : idsTo2 t (k + 1) = idsTo2 t k ++ [b.Id] := by
  unfold idsTo2; rw [List.take_succ, h, List.map_append]; rfl
theorem idsTo2_all {t : Train} {k : Nat} (h : t.boats.length ≤ k) : idsTo2 t k = t.boats.map idOf := by
  unfold idsTo2; rw [List.take_of_length_le h]
theorem idsTo2_len {t : Train} {k : Nat} (h : k ≤ t.boats.length) : (idsTo2 t k).length = k := by
  unfold idsTo2; simp; omega
theorem IdsOf_implP (t : Train) (h : t.small) : PureF Try.prog n_impl_IdsOf [.agg (t.enc.map .c)] (.c (.sl 1 ((IdsOf t).map ienc))) := by
  refine pure_of h_impl_IdsOf (by simp) fun hwf => ?_
  simp -dsimp -implicitDefEqProofs [c_impl_IdsOf]
  first
    | refine call_lend (TrainOk_impl t h) (by simp) rfl ?_
    | refine call_pure (TrainOk_impl t h) (by simp) rfl ?_
    | refine ⟨_, _, TrainOk_impl t h, by simp, .inr rfl, ?_⟩
    | refine ⟨_, _, TrainOk_impl t h, by simp, .inl rfl, ?_⟩
    | refine callE_pure (TrainOk_impl t h) (by simp) (.inr rfl) ?_
    | refine callE_pure (TrainOk_impl t h) (by simp) (.inl rfl) ?_
  cases h1 : TrainOk t with
  | false => simp -dsimp -implicitDefEqProofs; simp [IdsOf, h1]
  | true =>
    have tf := trainFacts h1
    have h6 := tf.len
    simp -dsimp -implicitDefEqProofs
    first
      | refine call_lend (boatsOf_c t h) (by simp) rfl ?_
      | refine call_pure (boatsOf_c t h) (by simp) rfl ?_
      | refine ⟨_, _, boatsOf_c t h, by simp, .inr rfl, ?_⟩
      | refine ⟨_, _, boatsOf_c t h, by simp, .inl rfl, ?_⟩
      | refine callE_pure (boatsOf_c t h) (by simp) (.inr rfl) ?_
      | refine callE_pure (boatsOf_c t h) (by simp) (.inl rfl) ?_
    simp -dsimp -implicitDefEqProofs
    intro hlen
    refine virt_rule (k0 := 1) 3 1 (by simp) (by simp) (by decide) ?_
    refine loop_rule (ι := Nat) (fun k => k ≤ t.boats.length) (fun k => stOf [(3, .own 3 1 (idsTo2 t k).length), (10, .c (.sl 6 (t.boats.map Boat.enc))), (11, .c (.i t.boats.length)), (12, .c (.i k))] [(3, .row 1 ((idsTo2 t k).map ienc))]) (fun k => t.boats.length - k) 0 (by simp) (by apply le_of <;> simp [AV.refs1, AV.ref0, Obj.refs1, idsTo2_zero]) ?_
    rintro k hk
    have hkl := idsTo2_len hk
    rcases Nat.lt_or_ge k t.boats.length with hlt | hge
    · obtain ⟨b, hb⟩ : ∃ b, t.boats[k]? = some b := ⟨_, List.getElem?_eq_getElem hlt⟩
      simp -dsimp -implicitDefEqProofs [hb, lt_t hlt]
      refine ⟨by omega, inI_succ hlt hlen, k + 1, hlt, by omega, ?_⟩
      apply le_of <;> simp [AV.refs1, AV.ref0, Obj.refs1, idsTo2_succ hb]
    · simp -dsimp -implicitDefEqProofs [lt_f hge]
      rw [take_all0, idsTo2_all hge]
      simp [IdsOf, h1]
theorem IdsOf_spec (t : Train) (h : t.small) : PureF Try.prog n_spec_IdsOf [.agg (t.enc.map .c)] (.c (.sl 1 ((IdsOf t).map ienc))) := by
  refine pure_of h_spec_IdsOf (by simp) fun hwf => ?_
  simp -dsimp -implicitDefEqProofs [c_spec_IdsOf]
  first
    | refine call_lend (l04Boats_c t h) (by simp) rfl ?_
    | refine call_pure (l04Boats_c t h) (by simp) rfl ?_
    | refine ⟨_, _, l04Boats_c t h, by simp, .inr rfl, ?_⟩
    | refine ⟨_, _, l04Boats_c t h, by simp, .inl rfl, ?_⟩
    | refine callE_pure (l04Boats_c t h) (by simp) (.inr rfl) ?_
    | refine callE_pure (l04Boats_c t h) (by simp) (.inl rfl) ?_
  simp -dsimp -implicitDefEqProofs
  refine loop_rule (ι := Nat) (fun k => k ≤ t.boats.length ∧ (k ≠ 0 → TrainOk t = true)) (fun k => stOf [(1, .box 1 0), (3, .own 6 1 (idsTo2 t k).length), (4, .c (.sl 6 (t.boats.map Boat.enc))), (5, .c (.i k))] [(1, .box (t.enc.map .c)), (6, .row 1 ((idsTo2 t k).map ienc))]) (fun k => t.boats.length - k) 0 (by simp) (by apply le_of <;> simp [AV.refs1, AV.ref0, Obj.refs1, idsTo2_zero]) ?_
  rintro k ⟨hk, hok⟩
  have hkl := idsTo2_len hk
  have fin : TrainOk t = false → k = 0 := fun h1 => by
    rcases Nat.eq_zero_or_pos k with e | e
    · exact e
    · rw [hok (by omega)] at h1; cases h1
  rcases Nat.lt_or_ge k t.boats.length with hlt | hge
  · obtain ⟨b, hb⟩ : ∃ b, t.boats[k]? = some b := ⟨_, List.getElem?_eq_getElem hlt⟩
    simp -dsimp -implicitDefEqProofs [hb, lt_t hlt]
    intro hlen
    first
      | refine call_lend (TrainOk_spec t h) (by simp) rfl ?_
      | refine call_pure (TrainOk_spec t h) (by simp) rfl ?_
      | refine ⟨_, _, TrainOk_spec t h, by simp, .inr rfl, ?_⟩
      | refine ⟨_, _, TrainOk_spec t h, by simp, .inl rfl, ?_⟩
      | refine callE_pure (TrainOk_spec t h) (by simp) (.inr rfl) ?_
      | refine callE_pure (TrainOk_spec t h) (by simp) (.inl rfl) ?_
    cases h1 : TrainOk t with
    | false =>
      have := fin h1
      subst this
      simp -dsimp -implicitDefEqProofs
      simp [IdsOf, h1, idsTo2_zero]
    | true =>
      have h6 := (trainFacts h1).len
      simp -dsimp -implicitDefEqProofs [hb, lt_t hlt]
      refine ⟨by omega, inI_succ hlt hlen, k + 1, by first | exact ⟨hlt, fun _ => h1⟩ | exact hlt, by omega, ?_⟩
      apply le_of <;> simp [AV.refs1, AV.ref0, Obj.refs1, idsTo2_succ hb]
  · simp -dsimp -implicitDefEqProofs [lt_f hge]
    intro _
    rw [take_all0]
    by_cases h1 : TrainOk t = true
    · rw [idsTo2_all hge]; simp [IdsOf, h1]
    · have := fin (by simpa using h1)
      subst this
      simp [IdsOf, h1, idsTo2_zero]
def small_TrainS : List Train → Prop := smallS Train.small
structure Lock where
  Length : Int
  Width : Int
  SillAbove : Int
  SillBelow : Int
  Base : Int
  Area : Int
  Rate : Int
  Water : Int
  Gate : Int
  Inside : List Train
  deriving DecidableEq, Inhabited
@[simp] def Lock.enc (e : Lock) : List C := [.i e.Length, .i e.Width, .i e.SillAbove, .i e.SillBelow, .i e.Base, .i e.Area, .i e.Rate, .i e.Water, .i e.Gate, .sl 2 (e.Inside.map Train.enc)]
-- Lock
def Lock.small (e : Lock) : Prop := small_TrainS e.Inside
structure Weir where
  Gates : Int
  Open : Int
  Step : Int
  Crest : Int
  Width : Int
  deriving DecidableEq, Inhabited
@[simp] def Weir.enc (e : Weir) : List C := [.i e.Gates, .i e.Open, .i e.Step, .i e.Crest, .i e.Width]
-- Weir
structure Rule where
  Low : Int
  High : Int
  Flood : Int
  deriving DecidableEq, Inhabited
@[simp] def Rule.enc (e : Rule) : List C := [.i e.Low, .i e.High, .i e.Flood]
-- Rule
structure Pause where
  From : Int
  Until : Int
  deriving DecidableEq, Inhabited
@[simp] def Pause.enc (e : Pause) : List C := [.i e.From, .i e.Until]
-- Pause
def small_PauseS : List Pause → Prop := smallS fun _ => True
structure Turn where
  Up : Bool
  Count : Int
  deriving DecidableEq, Inhabited
@[simp] def Turn.enc (e : Turn) : List C := [.b e.Up, .i e.Count]
-- Turn
structure CallT where
  Train : Train
  Since : Int
  Booked : Int
  deriving DecidableEq, Inhabited
@[simp] def CallT.enc (e : CallT) : List C := [.b e.Train.Up, .sl 1 (e.Train.Rows.map enc_BoatS), .i e.Since, .i e.Booked]
-- Call
def CallT.small (e : CallT) : Prop := e.Train.small
def small_CallS : List CallT → Prop := smallS CallT.small
structure Work where
  Lock : Lock
  Weir : Weir
  Rule : Rule
  Pauses : List Pause
  Turn : Turn
  Calls : List CallT
  deriving DecidableEq, Inhabited
@[simp] def Work.enc (e : Work) : List C := [.i e.Lock.Length, .i e.Lock.Width, .i e.Lock.SillAbove, .i e.Lock.SillBelow, .i e.Lock.Base, .i e.Lock.Area, .i e.Lock.Rate, .i e.Lock.Water, .i e.Lock.Gate, .sl 2 (e.Lock.Inside.map Train.enc), .i e.Weir.Gates, .i e.Weir.Open, .i e.Weir.Step, .i e.Weir.Crest, .i e.Weir.Width, .i e.Rule.Low, .i e.Rule.High, .i e.Rule.Flood, .sl 2 (e.Pauses.map Pause.enc), .b e.Turn.Up, .i e.Turn.Count, .sl 4 (e.Calls.map CallT.enc)]
-- Work
def Work.small (e : Work) : Prop := e.Lock.small ∧ small_PauseS e.Pauses ∧ small_CallS e.Calls
def bAdd (b : List Int) (i d : Int) : List Int := b.set i.toNat (b[i.toNat]?.getD 0 + d)
def post (b : List Int) (e : Entry) : List Int := bAdd (bAdd b e.From (-e.Amount)) e.To e.Amount
def noBal : List Int := List.replicate 12 0
def balTo (es : List Entry) (k : Nat) : List Int := (es.take k).foldl post noBal
def BalancesOf (es : List Entry) : List Int := if BookOk es then es.foldl post noBal else []
theorem balTo_zero {es : List Entry} : balTo es 0 = noBal := rfl
theorem balTo_succ {es : List Entry} {k : Nat} {e : Entry} (h : es[k]? = some e) : balTo es (k + 1) = post (balTo es k) e := by
  unfold balTo; rw [List.take_succ, h, List.foldl_append]; rfl
theorem balTo_all {es : List Entry} {k : Nat} (h : es.length ≤ k) : balTo es k = es.foldl post noBal := by
  unfold balTo; rw [List.take_of_length_le h]
theorem bAdd_len {b : List Int} {i d : Int} : (bAdd b i d).length = b.length := by simp [bAdd]
theorem post_len {b : List Int} {e : Entry} : (post b e).length = b.length := by simp [post, bAdd_len]
theorem balTo_len {es : List Entry} : ∀ k : Nat, (balTo es k).length = 12
  | 0 => rfl
  | k + 1 => by
    cases h : es[k]? with
    | none =>
      have hl : es.length ≤ k := by simpa using h
      have := balTo_len (es := es) k
      rw [balTo_all (by omega)]; rwa [balTo_all hl] at this
    | some e => rw [balTo_succ h, post_len, balTo_len k]
structure EntryFacts (e : Entry) : Prop where
  ne : e.From ≠ e.To
  from_ : 0 ≤ e.From ∧ e.From ≤ 11
  to_ : 0 ≤ e.To ∧ e.To ≤ 11
  amt : 1 ≤ e.Amount ∧ e.Amount ≤ 1000000000
  time : 0 ≤ e.Time ∧ e.Time ≤ 1000000
  why : 0 ≤ e.Why ∧ e.Why ≤ 9999
theorem entryFacts {e : Entry} (h : EntryOk e = true) : EntryFacts e := by
  simp only [EntryOk, Bool.and_eq_true, decide_eq_true_eq] at h
  obtain ⟨⟨⟨⟨⟨h1, h2⟩, h3⟩, h4⟩, h5⟩, h6⟩ := h
  exact ⟨h1, inRange_iff.1 h2, inRange_iff.1 h3, inRange_iff.1 h4, inRange_iff.1 h5, inRange_iff.1 h6⟩
theorem bookFacts {es : List Entry} (h : BookOk es = true) : es.length ≤ 2000 ∧ ∀ e ∈ es, EntryOk e = true := by
  simp only [BookOk, Bool.and_eq_true, List.all_eq_true, decide_eq_true_eq] at h
  exact h
theorem bAdd_in {b : List Int} {i d n m : Int} (h : ∀ x ∈ b, -n ≤ x ∧ x ≤ n) (hd : -m ≤ d ∧ d ≤ m) (hn : 0 ≤ n) : ∀ x ∈ bAdd b i d, -(n + m) ≤ x ∧ x ≤ n + m := by
  intro x hx
  unfold bAdd at hx
  rcases List.mem_or_eq_of_mem_set hx with hx | rfl
  · have := h x hx; omega
  · cases hb : b[i.toNat]? with
    | none => simp; omega
    | some y => have := h y (List.mem_of_getElem? hb); simp; omega
theorem balTo_in {es : List Entry} (h : BookOk es = true) : ∀ k : Nat, ∀ x ∈ balTo es k, -(2000000000 * (k : Int)) ≤ x ∧ x ≤ 2000000000 * k
  | 0 => by intro x hx; rw [balTo_zero] at hx; have := List.eq_of_mem_replicate hx; omega
  | k + 1 => by
    have ih := balTo_in h k
    cases hk : es[k]? with
    | none =>
      have hl : es.length ≤ k := by simpa using hk
      have e1 : balTo es (k + 1) = balTo es k := by rw [balTo_all (by omega), balTo_all hl]
      rw [e1]
      intro x hx
      have := ih x hx
      have e2 : ((k + 1 : Nat) : Int) = k + 1 := by simp
      rw [e2]; omega
    | some e =>
      have ef := entryFacts ((bookFacts h).2 e (List.mem_of_getElem? hk))
      have ha := ef.amt
      rw [balTo_succ hk]
      have h1 := bAdd_in (i := e.From) (d := -e.Amount) (m := 1000000000) ih (by omega) (by omega)
      have h2 := bAdd_in (i := e.To) (d := e.Amount) (m := 1000000000) h1 (by omega) (by omega)
      intro x hx
      have := h2 x hx
      have e2 : ((k + 1 : Nat) : Int) = k + 1 := by simp
      rw [e2]; omega
theorem bAdd_at {b : List Int} {i d v : Int} (h : b[i.toNat]? = some v) : (b.map ienc).set i.toNat [.i (v + d)] = (bAdd b i d).map ienc := by
  unfold bAdd; rw [h, List.map_set]; rfl
theorem bAdd_other {b : List Int} {i j d : Int} (h : i.toNat ≠ j.toNat) : (bAdd b i d)[j.toNat]? = b[j.toNat]? := by
  unfold bAdd; rw [List.getElem?_set]; simp [h]
theorem map_at {b : List Int} {i v : Int} (h : b[i.toNat]? = some v) : (b.map ienc)[i.toNat]? = some [.i v] := by simp [h]
theorem BalancesOf_impl (es : List Entry) : OwnF Try.prog n_impl_BalancesOf [.c (.sl 5 (es.map Entry.enc))] (.c (.ow 1 ((BalancesOf es).map ienc))) := by
  refine own_of h_impl_BalancesOf (by simp) fun hwf => ?_
  simp -dsimp -implicitDefEqProofs [c_impl_BalancesOf]
  first
    | refine call_lend (BookOk_impl es) (by simp) rfl ?_
    | refine call_pure (BookOk_impl es) (by simp) rfl ?_
    | refine ⟨_, _, BookOk_impl es, by simp, .inr rfl, ?_⟩
    | refine ⟨_, _, BookOk_impl es, by simp, .inl rfl, ?_⟩
    | refine callE_pure (BookOk_impl es) (by simp) (.inr rfl) ?_
    | refine callE_pure (BookOk_impl es) (by simp) (.inl rfl) ?_
  cases h : BookOk es with
  | false => simp -dsimp -implicitDefEqProofs; simp [BalancesOf, h]
  | true =>
    obtain ⟨hb1, hb2⟩ := bookFacts h
    simp -dsimp -implicitDefEqProofs
    intro hlen
    refine loop_rule (ι := Nat) (fun k => k ≤ es.length) (fun k => stOf [(3, .own 9 1 12), (10, .c (.sl 5 (es.map Entry.enc))), (11, .c (.i es.length)), (12, .c (.i k))] [(9, .row 1 ((balTo es k).map ienc))]) (fun k => es.length - k) 0 (by simp) (by apply le_of <;> simp [AV.refs1, AV.ref0, Obj.refs1, balTo_zero, noBal]) ?_
    rintro k hk
    rcases Nat.lt_or_ge k es.length with hlt | hge
    · obtain ⟨e, he⟩ : ∃ e, es[k]? = some e := ⟨_, List.getElem?_eq_getElem hlt⟩
      have ef := entryFacts (hb2 e (List.mem_of_getElem? he))
      have f1 := ef.from_; have f2 := ef.to_; have f3 := ef.amt; have f4 := ef.ne
      have hl := balTo_len (es := es) k
      have hin := balTo_in h k
      have hs := balTo_succ he
      generalize balTo es k = b at *
      obtain ⟨v, hv⟩ : ∃ v, b[e.From.toNat]? = some v := ⟨_, List.getElem?_eq_getElem (by omega)⟩
      obtain ⟨u, hu⟩ : ∃ v, b[e.To.toNat]? = some v := ⟨_, List.getElem?_eq_getElem (by omega)⟩
      have iv' := hin v (List.mem_of_getElem? hv)
      have iu' := hin u (List.mem_of_getElem? hu)
      have hne : e.From.toNat ≠ e.To.toNat := by omega
      have m1 := map_at hv
      have m2 := map_at (bAdd_other (d := -e.Amount) hne ▸ hu)
      have s1 := bAdd_at (d := -e.Amount) hv
      have s2 := bAdd_at (b := bAdd b e.From (-e.Amount)) (i := e.To) (d := e.Amount) (by rw [bAdd_other hne]; exact hu)
      have hu' : (bAdd b e.From (-e.Amount))[e.To.toNat]? = some u := by rw [bAdd_other hne]; exact hu
      have g1 := (List.getElem?_eq_some_iff.1 hv).2
      have g2 := (List.getElem?_eq_some_iff.1 hu').2
      have k1 : e.From.toNat < b.length := by omega
      have k2 : e.To.toNat < b.length := by omega
      have k3 : e.From < 12 := by omega
      have k4 : e.To < 12 := by omega
      rw [← Int.sub_eq_add_neg] at s1
      simp -dsimp -implicitDefEqProofs [he, lt_t hlt, hv, g1, s1, hu', g2, s2, k1, k2, k3, k4, f1.1, f2.1, bAdd_len]
      refine ⟨by unfold inI; omega, by unfold inI; omega, inI_succ hlt hlen, k + 1, hlt, by omega, ?_⟩
      apply le_of <;> simp [AV.refs1, AV.ref0, Obj.refs1, hs, post]
    · simp -dsimp -implicitDefEqProofs [lt_f hge]
      rw [balTo_all hge, List.take_of_length_le (by have := balTo_len (es := es) es.length; rw [balTo_all (Nat.le_refl _)] at this; simp [this])]
      simp [BalancesOf, h]
theorem BalancesOf_implP (es : List Entry) : PureF Try.prog n_impl_BalancesOf [.c (.sl 5 (es.map Entry.enc))] (.c (.sl 1 ((BalancesOf es).map ienc))) := (BalancesOf_impl es).pure (by simp)
theorem iand_le {a m : Int} (h0 : 0 ≤ m) (h1 : m ≤ 9223372036854775807) : 0 ≤ iand a m ∧ iand a m ≤ m := by
  unfold iand
  have h2 : (BitVec.ofInt 64 m).toNat = m.toNat := by
    rw [BitVec.toNat_ofInt, Int.emod_eq_of_lt h0 (by omega)]
  have h3 : (BitVec.ofInt 64 a &&& BitVec.ofInt 64 m).toNat ≤ m.toNat := by rw [BitVec.toNat_and, h2]; exact Nat.and_le_right
  rw [wrap_inI (inI_of (by omega) (by omega))]
  omega
def nenc (n : Nat) : List C := [.u n]
def hNext (h : Int) : Int := IntKind.i64.wrap (IntKind.i64.wrap (h * 6364136223846793005) + 1442695040888963407)
def hVal (h : Int) : Int := iand (ixor (ishr (hNext h) 33) (ishr (hNext h) 45)) 255
def curC (code : List UInt8) (p : Nat × Int) : List C := [.sl 1 (code.map uenc), .i p.1, .i p.2]
def byteN (code : List UInt8) (p : Nat × Int) : Nat × Int := (if p.1 < code.length then p.1 + 1 else p.1, hNext p.2)
def byteV (code : List UInt8) (p : Nat × Int) : Int :=
  match code[p.1]? with
  | some b => iand (hVal p.2 + b.toNat) 255
  | none => hVal p.2
theorem byteN_ok {code : List UInt8} {p : Nat × Int} (h : p.1 ≤ code.length) : (byteN code p).1 ≤ code.length := by
  unfold byteN; dsimp only; split <;> omega
theorem byteV_rng (code : List UInt8) (p : Nat × Int) : 0 ≤ byteV code p ∧ byteV code p ≤ 255 := by
  unfold byteV
  split
  · exact iand_le (by omega) (by omega)
  · exact iand_le (by omega) (by omega)
theorem hVal_rng (h : Int) : 0 ≤ hVal h ∧ hVal h ≤ 255 := iand_le (by omega) (by omega)
theorem u8_lt (b : UInt8) : b.toNat ≤ 255 := by have := b.toNat_lt; omega
theorem l01Byte_c (code : List UInt8) (p : Nat × Int) (hp : p.1 ≤ code.length) : CurF Try.prog n_spec_l01Byte (curC code p) (curC code (byteN code p)) [] (.c (.i (byteV code p))) := by
  refine cur_of h_spec_l01Byte (by simp) fun hwf hwf2 => ?_
  cases hb : code[p.1]? with
  | none =>
    have hge : code.length ≤ p.1 := by simpa using hb
    have hnl : (p.1 < code.length) = False := by simp; omega
    simp -dsimp -implicitDefEqProofs [c_spec_l01Byte, curC, hnl]
    intro _
    simp [byteN, byteV, hNext, hVal, hb, hnl]
  | some b =>
    have hlt : p.1 < code.length := (List.getElem?_eq_some_iff.1 hb).1
    have hr := hVal_rng p.2
    have g1 := (List.getElem?_eq_some_iff.1 hb).2
    have h8 := u8_lt b
    simp only [hVal, hNext] at hr
    simp -dsimp -implicitDefEqProofs [c_spec_l01Byte, curC, hb, g1, hlt, uenc]
    refine fun hl => ⟨by unfold inI; omega, by unfold maxLen at hl; unfold inI; omega, ?_⟩
    simp [byteN, byteV, hNext, hVal, hb, g1, hlt]
def belowN (code : List UInt8) (n : Int) (p : Nat × Int) : Nat × Int :=
  if n ≤ 256 then byteN code p else byteN code (byteN code (byteN code (byteN code p)))
def belowV (code : List UInt8) (n : Int) (p : Nat × Int) : Int :=
  if n ≤ 256 then (byteV code p).tmod n
  else (byteV code p * 16777216 + byteV code (byteN code p) * 65536 + byteV code (byteN code (byteN code p)) * 256 + byteV code (byteN code (byteN code (byteN code p)))).tmod n
theorem belowN_ok {code : List UInt8} {n : Int} {p : Nat × Int} (h : p.1 ≤ code.length) : (belowN code n p).1 ≤ code.length := by
  unfold belowN
  split
  · exact byteN_ok h
  · exact byteN_ok (byteN_ok (byteN_ok (byteN_ok h)))
theorem belowV_rng {code : List UInt8} {n : Int} {p : Nat × Int} (hn : 1 ≤ n) : 0 ≤ belowV code n p ∧ belowV code n p < n := by
  have h1 := byteV_rng code p
  have h2 := byteV_rng code (byteN code p)
  have h3 := byteV_rng code (byteN code (byteN code p))
  have h4 := byteV_rng code (byteN code (byteN code (byteN code p)))
  unfold belowV
  split
  · rw [Int.tmod_eq_emod_of_nonneg (by omega)]
    exact ⟨Int.emod_nonneg _ (by omega), Int.emod_lt_of_pos _ (by omega)⟩
  · rw [Int.tmod_eq_emod_of_nonneg (by omega)]
    exact ⟨Int.emod_nonneg _ (by omega), Int.emod_lt_of_pos _ (by omega)⟩
theorem l01Below_c (code : List UInt8) (n : Int) (p : Nat × Int) (hp : p.1 ≤ code.length) (hn : 1 ≤ n) (hn2 : n ≤ 1000000) : CurF Try.prog n_spec_l01Below (curC code p) (curC code (belowN code n p)) [.c (.i n)] (.c (.i (belowV code n p))) := by
  refine cur_of h_spec_l01Below (by simp) fun hwf hwf2 => ?_
  simp -dsimp -implicitDefEqProofs [c_spec_l01Below]
  have n0 : (n ≤ 0) = False := by simp; omega
  simp -dsimp -implicitDefEqProofs [n0]
  have hv := belowV_rng (code := code) (p := p) hn
  refine fun _ => ⟨fun h => ?_, fun h => ?_⟩
  · skip
    simp only [belowV, belowN, if_pos h] at hv ⊢
    refine call_cur (l01Byte_c code p hp) (by simp ) (by simp) rfl (by simp [freshO]) ?_
    simp -dsimp -implicitDefEqProofs
    refine ⟨by omega, by unfold inI; omega, ?_⟩
    simp [h]; intros; omega
  · skip
    have h' : ¬ n ≤ 256 := by omega
    simp only [belowV, belowN, if_neg h'] at hv ⊢
    have h1 := byteV_rng code p
    have h2 := byteV_rng code (byteN code p)
    have h3 := byteV_rng code (byteN code (byteN code p))
    have h4 := byteV_rng code (byteN code (byteN code (byteN code p)))
    refine call_cur (l01Byte_c code p hp) (by simp ) (by simp) rfl (by simp [freshO]) ?_
    simp -dsimp -implicitDefEqProofs
    refine call_cur (l01Byte_c code (byteN code p) (byteN_ok hp)) (by simp ) (by simp) rfl (by simp [freshO]) ?_
    simp -dsimp -implicitDefEqProofs
    refine call_cur (l01Byte_c code (byteN code (byteN code p)) (byteN_ok (byteN_ok hp))) (by simp ) (by simp) rfl (by simp [freshO]) ?_
    simp -dsimp -implicitDefEqProofs
    refine call_cur (l01Byte_c code (byteN code (byteN code (byteN code p))) (byteN_ok (byteN_ok (byteN_ok hp)))) (by simp ) (by simp) rfl (by simp [freshO]) ?_
    simp -dsimp -implicitDefEqProofs
    refine ⟨by unfold inI; omega, by unfold inI; omega, by unfold inI; omega, by unfold inI; omega, by unfold inI; omega, by unfold inI; omega, by omega, by unfold inI; omega, ?_⟩
    simp [h']
def entryN (code : List UInt8) (p : Nat × Int) : Nat × Int := belowN code 90 (belowN code 90 (belowN code 500 (belowN code 5 (belowN code 12 p))))
def entryV (code : List UInt8) (p : Nat × Int) : Entry :=
  ⟨belowV code 12 p, (belowV code 12 p + 1 + belowV code 5 (belowN code 12 p)).tmod 12, 1 + belowV code 500 (belowN code 5 (belowN code 12 p)),
    belowV code 90 (belowN code 500 (belowN code 5 (belowN code 12 p))), belowV code 90 (belowN code 90 (belowN code 500 (belowN code 5 (belowN code 12 p))))⟩
theorem entryN_ok {code : List UInt8} {p : Nat × Int} (h : p.1 ≤ code.length) : (entryN code p).1 ≤ code.length := belowN_ok (belowN_ok (belowN_ok (belowN_ok (belowN_ok h))))
theorem entryV_ok (code : List UInt8) (p : Nat × Int) : EntryOk (entryV code p) = true ∧ (entryV code p).Amount ≤ 500 := by
  have h1 := belowV_rng (code := code) (n := 12) (p := p) (by omega)
  have h2 := belowV_rng (code := code) (n := 5) (p := belowN code 12 p) (by omega)
  have h3 := belowV_rng (code := code) (n := 500) (p := belowN code 5 (belowN code 12 p)) (by omega)
  have h4 := belowV_rng (code := code) (n := 90) (p := belowN code 500 (belowN code 5 (belowN code 12 p))) (by omega)
  have h5 := belowV_rng (code := code) (n := 90) (p := belowN code 90 (belowN code 500 (belowN code 5 (belowN code 12 p)))) (by omega)
  unfold entryV
  generalize belowV code 12 p = a at *
  generalize belowV code 5 (belowN code 12 p) = b at *
  generalize belowV code 500 (belowN code 5 (belowN code 12 p)) = c at *
  generalize belowV code 90 (belowN code 500 (belowN code 5 (belowN code 12 p))) = d at *
  generalize belowV code 90 (belowN code 90 (belowN code 500 (belowN code 5 (belowN code 12 p)))) = e at *
  rw [Int.tmod_eq_emod_of_nonneg (by omega)]
  simp only [EntryOk, Bool.and_eq_true, decide_eq_true_eq, inRange_iff]
  omega
theorem l08Entry_c (code : List UInt8) (p : Nat × Int) (hp : p.1 ≤ code.length) : CurF Try.prog n_spec_l08Entry (curC code p) (curC code (entryN code p)) [] (.agg ((entryV code p).enc.map .c)) := by
  refine cur_of h_spec_l08Entry (by simp) fun hwf hwf2 => ?_
  have h1 := belowV_rng (code := code) (n := 12) (p := p) (by omega)
  have h2 := belowV_rng (code := code) (n := 5) (p := belowN code 12 p) (by omega)
  have h3 := belowV_rng (code := code) (n := 500) (p := belowN code 5 (belowN code 12 p)) (by omega)
  have ht : 0 ≤ (belowV code 12 p + 1 + belowV code 5 (belowN code 12 p)).tmod 12 ∧ (belowV code 12 p + 1 + belowV code 5 (belowN code 12 p)).tmod 12 < 12 := by
    rw [Int.tmod_eq_emod_of_nonneg (by omega)]; omega
  simp -dsimp -implicitDefEqProofs [c_spec_l08Entry]
  refine call_cur (l01Below_c code 12 p hp (by omega) (by omega)) (by simp ) (by simp) rfl (by simp [freshO]) ?_
  simp -dsimp -implicitDefEqProofs
  refine ⟨by unfold inI; omega, ?_⟩
  refine call_cur (l01Below_c code 5 (belowN code 12 p) (belowN_ok hp) (by omega) (by omega)) (by simp ) (by simp) rfl (by simp [freshO]) ?_
  simp -dsimp -implicitDefEqProofs
  refine ⟨by unfold inI; omega, by unfold inI; omega, ?_⟩
  refine call_cur (l01Below_c code 500 (belowN code 5 (belowN code 12 p)) (belowN_ok (belowN_ok hp)) (by omega) (by omega)) (by simp ) (by simp) rfl (by simp [freshO]) ?_
  simp -dsimp -implicitDefEqProofs
  refine ⟨by unfold inI; omega, ?_⟩
  refine call_cur (l01Below_c code 90 (belowN code 500 (belowN code 5 (belowN code 12 p))) (belowN_ok (belowN_ok (belowN_ok hp))) (by omega) (by omega)) (by simp ) (by simp) rfl (by simp [freshO]) ?_
  simp -dsimp -implicitDefEqProofs
  refine call_cur (l01Below_c code 90 (belowN code 90 (belowN code 500 (belowN code 5 (belowN code 12 p)))) (belowN_ok (belowN_ok (belowN_ok (belowN_ok hp)))) (by omega) (by omega)) (by simp ) (by simp) rfl (by simp [freshO]) ?_
  simp -dsimp -implicitDefEqProofs
  simp [entryN, entryV]
def entP (code : List UInt8) (p : Nat × Int) : Nat → Nat × Int
  | 0 => p
  | k + 1 => entryN code (entP code p k)
theorem entP_ok {code : List UInt8} {p : Nat × Int} (h : p.1 ≤ code.length) : ∀ k : Nat, (entP code p k).1 ≤ code.length
  | 0 => h
  | k + 1 => entryN_ok (entP_ok h k)
def entS (code : List UInt8) (p : Nat × Int) (k : Nat) : List Entry := (List.range k).map fun i => entryV code (entP code p i)
theorem entS_succ {code : List UInt8} {p : Nat × Int} {k : Nat} : entS code p (k + 1) = entS code p k ++ [entryV code (entP code p k)] := by simp [entS, List.range_succ]
theorem entS_len {code : List UInt8} {p : Nat × Int} {k : Nat} : (entS code p k).length = k := by simp [entS]
theorem entS_ok {code : List UInt8} {p : Nat × Int} {k : Nat} : ∀ e ∈ entS code p k, EntryOk e = true ∧ e.Amount ≤ 500 := by
  intro e he
  obtain ⟨i, _, rfl⟩ := List.mem_map.1 he
  exact entryV_ok _ _
def bookK (code : List UInt8) (p : Nat × Int) : Nat := (belowV code 9 p).toNat
def bookN (code : List UInt8) (p : Nat × Int) : Nat × Int := entP code (belowN code 9 p) (bookK code p)
def bookV (code : List UInt8) (p : Nat × Int) : List Entry := entS code (belowN code 9 p) (bookK code p)
theorem bookK_le (code : List UInt8) (p : Nat × Int) : (bookK code p : Int) = belowV code 9 p ∧ bookK code p ≤ 8 := by
  have h := belowV_rng (code := code) (n := 9) (p := p) (by omega)
  unfold bookK; omega
theorem l08Book_c (code : List UInt8) (p : Nat × Int) (hp : p.1 ≤ code.length) : CurF Try.prog n_spec_l08Book (curC code p) (curC code (bookN code p)) [] (.c (.ow 5 ((bookV code p).map Entry.enc))) := by
  refine cur_of h_spec_l08Book (by simp) fun hwf hwf2 => ?_
  have hk := bookK_le code p
  have hq := belowN_ok (n := 9) hp
  simp -dsimp -implicitDefEqProofs [c_spec_l08Book]
  refine call_cur (l01Below_c code 9 p hp (by omega) (by omega)) (by simp ) (by simp) rfl (by simp [freshO]) ?_
  have ebn : bookN code p = entP code (belowN code 9 p) (bookK code p) := rfl
  have ebv : bookV code p = entS code (belowN code 9 p) (bookK code p) := rfl
  simp -dsimp -implicitDefEqProofs [ebn, ebv]
  generalize belowN code 9 p = q at *
  rw [← hk.1]
  have hk8 := hk.2
  generalize bookK code p = n at *
  refine loop_rule (ι := Nat) (fun j => j ≤ n) (fun j => stOf [(0, .box 0 0), (1000000, .box 0 0), (3, .own 5 5 (entS code q j).length), (4, .c (.i (n - j)))] [(0, .box ((curC code (entP code q j)).map .c)), (5, .row 5 ((entS code q j).map Entry.enc))]) (fun j => n - j) 0 (by simp) (by apply le_of <;> simp [AV.refs1, AV.ref0, Obj.refs1, entP, entS]) ?_
  rintro j hj
  rcases Nat.lt_or_ge j n with hlt | hge
  · have hgt : (0 < (n : Int) - (j : Int)) = True := by simp; omega
    simp -dsimp -implicitDefEqProofs [hgt]
    refine ⟨fun _ => ?_, fun h => by omega⟩
    refine call_cur (l08Entry_c code (entP code q j) (entP_ok hq j)) (by simp ) (by simp) rfl (by simp [freshO]) ?_
    simp -dsimp -implicitDefEqProofs
    refine ⟨by rw [entS_len]; omega, by unfold inI; omega, j + 1, hlt, by omega, ?_⟩
    apply le_of <;> simp [AV.refs1, AV.ref0, Obj.refs1, entP, entS_succ] <;> omega
  · have hgt : (0 < (n : Int) - (j : Int)) = False := by simp; omega
    have : j = n := by omega
    subst this
    simp -dsimp -implicitDefEqProofs [hgt]
    rw [ebn, ebv, take_full]; exact ⟨rfl, rfl⟩
def hStep (h : Int) (b : UInt8) : Int := iand (h * 131 + b.toNat + 7) 1073741823
def hashTo (code : List UInt8) (k : Nat) : Int := (code.take k).foldl hStep (33173 + code.length)
def hash (code : List UInt8) : Int := hashTo code (min code.length 4000)
theorem hashTo_zero {code : List UInt8} : hashTo code 0 = 33173 + code.length := rfl
theorem hashTo_succ {code : List UInt8} {k : Nat} {b : UInt8} (h : code[k]? = some b) : hashTo code (k + 1) = hStep (hashTo code k) b := by
  unfold hashTo; rw [List.take_succ, h, List.foldl_append]; rfl
theorem hStep_rng (h : Int) (b : UInt8) : 0 ≤ hStep h b ∧ hStep h b ≤ 1073741823 := iand_le (by omega) (by omega)
theorem hashTo_rng {code : List UInt8} (hl : code.length ≤ 1048576) : ∀ k : Nat, 0 ≤ hashTo code k ∧ hashTo code k ≤ 1073741823
  | 0 => by rw [hashTo_zero]; omega
  | k + 1 => by
    cases h : code[k]? with
    | none =>
      have hk : code.length ≤ k := by simpa using h
      have : hashTo code (k + 1) = hashTo code k := by unfold hashTo; rw [List.take_of_length_le (by omega), List.take_of_length_le hk]
      rw [this]; exact hashTo_rng hl k
    | some b => rw [hashTo_succ h]; exact hStep_rng _ _
theorem l01New_o (code : List UInt8) (hl : code.length ≤ 1048576) : OwnF Try.prog n_spec_l01New [.c (.sl 1 (code.map uenc))] (.c (.bx (curC code (0, hash code)))) := by
  refine own_of h_spec_l01New (by simp) fun hwf => ?_
  simp -dsimp -implicitDefEqProofs [c_spec_l01New]
  refine fun hlen => ⟨by unfold inI; omega, ?_⟩
  refine loop_rule (ι := Nat) (fun k => k ≤ min code.length 4000) (fun k => stOf [(0, .c (.sl 1 (code.map uenc))), (3, .c (.i (hashTo code k))), (4, .c (.i k))] []) (fun k => min code.length 4000 - k) 0 (by simp) (by apply le_of <;> simp [AV.refs1, AV.ref0, Obj.refs1, hashTo_zero]) ?_
  rintro k hk
  have hr := hashTo_rng hl k
  rcases Nat.lt_or_ge k code.length with hlt | hge
  · obtain ⟨b, hb⟩ : ∃ b, code[k]? = some b := ⟨_, List.getElem?_eq_getElem hlt⟩
    have g1 := (List.getElem?_eq_some_iff.1 hb).2
    have h8 := u8_lt b
    have hs := hashTo_succ hb
    simp only [hStep] at hs
    simp -dsimp -implicitDefEqProofs [hb, g1, hlt, uenc]
    refine fun _ => ⟨fun h4 => ⟨by unfold inI; omega, by unfold inI; omega, by unfold inI; omega, by unfold inI; omega, k + 1, by omega, by omega, ?_⟩, fun h4 => ?_⟩
    · apply le_of <;> simp [AV.refs1, AV.ref0, Obj.refs1, hs]
    · have e : min code.length 4000 = k := by omega
      simp [curC, hash, e, C.plain]
  · have hnl : (k < code.length) = False := by simp; omega
    simp -dsimp -implicitDefEqProofs [hnl]
    intro _
    have e : min code.length 4000 = k := by omega
    simp [curC, hash, e, C.plain]
def drawnBook (code : List UInt8) : List Entry := bookV code (0, hash code)
theorem drawnBook_ok (code : List UInt8) : (drawnBook code).length ≤ 8 ∧ ∀ e ∈ drawnBook code, EntryOk e = true ∧ e.Amount ≤ 500 := by
  refine ⟨?_, entS_ok⟩
  unfold drawnBook bookV
  rw [entS_len]
  exact (bookK_le _ _).2
theorem DrawBook_o (code : List UInt8) (hl : code.length ≤ 1048576) : OwnF Try.prog n_spec_DrawBook [.c (.sl 1 (code.map uenc))] (.c (.ow 5 ((drawnBook code).map Entry.enc))) := by
  refine own_of h_spec_DrawBook (by simp) fun hwf => ?_
  have hpl : (∀ x, x ∈ curC code (0, hash code) → x.plain = true) = True := by simp [curC, C.plain]
  simp -dsimp -implicitDefEqProofs [c_spec_DrawBook]
  refine call_ownD (l01New_o code hl) (by simp) rfl (by simp [freshO, hpl]) ?_
  simp -dsimp -implicitDefEqProofs [hpl]
  refine call_cur (l08Book_c code (0, hash code) (by simp)) (by simp [hpl]) (by simp) rfl (by simp [freshO, hpl]) ?_
  simp -dsimp -implicitDefEqProofs
  simp [drawnBook, take_full]
def onceV (code : List UInt8) (n : Int) (p : Nat × Int) : Bool := decide (belowV code n p = 0)
theorem l01Once_c (code : List UInt8) (n : Int) (p : Nat × Int) (hp : p.1 ≤ code.length) (hn : 1 ≤ n) (hn2 : n ≤ 1000000) : CurF Try.prog n_spec_l01Once (curC code p) (curC code (belowN code n p)) [.c (.i n)] (.c (.b (onceV code n p))) := by
  refine cur_of h_spec_l01Once (by simp) fun hwf hwf2 => ?_
  simp -dsimp -implicitDefEqProofs [c_spec_l01Once]
  refine call_cur (l01Below_c code n p hp hn hn2) (by simp ) (by simp) rfl (by simp [freshO]) ?_
  simp -dsimp -implicitDefEqProofs
  simp [onceV]
def pickV (code : List UInt8) (l : List Int) (p : Nat × Int) : Int := l[(belowV code l.length p).toNat]?.getD 0
def pickN (code : List UInt8) (l : List Int) (p : Nat × Int) : Nat × Int := belowN code l.length p
theorem pickV_mem {code : List UInt8} {l : List Int} {p : Nat × Int} (hl : 1 ≤ l.length) : pickV code l p ∈ l := by
  have h := belowV_rng (code := code) (n := l.length) (p := p) (by omega)
  have hlt : (belowV code l.length p).toNat < l.length := by omega
  unfold pickV
  rw [List.getElem?_eq_getElem hlt]
  exact List.getElem_mem hlt
end Go.Proofs.Ytpglolegeidfoaa
