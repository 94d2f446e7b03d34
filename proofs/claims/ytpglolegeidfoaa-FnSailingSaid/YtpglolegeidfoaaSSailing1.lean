/- What the law FnSailing stands on, part 1: contracts of functions, what each answers as plain Lean. -/
import Derived.Test.YtpglolegeidfoaaMA3
import Derived.Test.YtpglolegeidfoaaProg
import Derived.KernelRfl
import Derived.Test.YtpglolegeidfoaaMA4
import Derived.Test.YtpglolegeidfoaaMA8
import Derived.Test.YtpglolegeidfoaaMA6
import Derived.Test.YtpglolegeidfoaaMA7
import Derived.Test.YtpglolegeidfoaaMA9
import Derived.Test.YtpglolegeidfoaaMA10
import Derived.Test.YtpglolegeidfoaaMA13
import Derived.Test.YtpglolegeidfoaaMA5
import Derived.Test.YtpglolegeidfoaaMHead
set_option linter.all false
namespace Go.Proofs.Ytpglolegeidfoaa
open Go.RowKit

abbrev kI (n : Int) : X := .k (.c (.i n))
abbrev kB (b : Bool) : X := .k (.c (.b b))
abbrev iv (d n : Nat) : Ins := ⟨none, some d, .mv (.t n)⟩
abbrev ia (d : Nat) (o : IOp) : Ins := ⟨none, some d, o⟩
abbrev ig (t : Nat) (b : Bool) (d : Nat) (o : IOp) : Ins := ⟨some (t, b), some d, o⟩
abbrev ie (o : IOp) : Ins := ⟨none, none, o⟩
abbrev n_laws_FnSailing : Nat := 3
abbrev n_laws_big : Nat := 7
abbrev n_spec_DrawTrain : Nat := 8
abbrev n_spec_DrawWay : Nat := 9
abbrev n_spec_NewReach : Nat := 10
abbrev n_laws_at : Nat := 11
abbrev n_impl_TimeTo : Nat := 12
abbrev n_impl_DepthIn : Nat := 13
abbrev n_spec_DraughtOf : Nat := 14
abbrev n_impl_GroundedOf : Nat := 15
abbrev n_impl_AtEnd : Nat := 16
abbrev n_impl_MoveOne : Nat := 17
abbrev n_impl_MoverOk : Nat := 18
abbrev n_impl_PaceOf : Nat := 19
abbrev n_spec_SpeedOf : Nat := 20
abbrev n_spec_l04Train : Nat := 43
abbrev n_spec_l01New : Nat := 44
abbrev n_spec_l07Way : Nat := 45
abbrev n_spec_l01In : Nat := 46
abbrev n_spec_ValueAt : Nat := 47
abbrev n_spec_ReachOk : Nat := 48
abbrev n_impl_ReachOk : Nat := 49
abbrev n_impl_WayOk : Nat := 50
abbrev n_impl_LevelOf : Nat := 51
abbrev n_spec_l04Boats : Nat := 52
abbrev n_spec_TrainOk : Nat := 53
abbrev n_impl_IdsOf : Nat := 54
abbrev n_impl_endOf : Nat := 55
abbrev n_impl_moved : Nat := 56
abbrev n_impl_copyTrain : Nat := 57
abbrev n_impl_TrainOk : Nat := 58
abbrev n_impl_inRange : Nat := 59
abbrev n_impl_DraughtOf : Nat := 60
abbrev n_impl_SpeedOf : Nat := 61
abbrev n_spec_l01Once : Nat := 82
abbrev n_spec_l01Below : Nat := 83
abbrev n_spec_l04Boat : Nat := 84
abbrev n_spec_l01PickInt : Nat := 85
abbrev n_spec_TableOk : Nat := 86
abbrev n_spec_l02Sum : Nat := 87
abbrev n_impl_TableOk : Nat := 88
abbrev n_impl_PlaceOf : Nat := 89
abbrev n_spec_BoatOk : Nat := 90
abbrev n_impl_boatsOf : Nat := 91
abbrev n_impl_copyRows : Nat := 92
abbrev n_impl_BoatOk : Nat := 93
abbrev n_slices_Contains___int_int_ : Nat := 94
abbrev n_spec_l01Byte : Nat := 106
abbrev n_impl_ValueAt : Nat := 107
abbrev n_slices_Clone___impl_Boat_impl_Boat_ : Nat := 108
abbrev n_slices_Index___int_int_ : Nat := 109
def c_laws_FnSailing : SC := .seq (.reg [ia 2 (.mv (kB false))]) (.seq (.seq (.reg [iv 13 0,ia 14 (.call n_laws_big [.t 13])]) (.cond (.t 14) (.seq (.reg [ia 2 (.mv (kB true))]) (.ret)) (.skip))) (.seq (.reg [iv 15 0,ia 16 (.call n_spec_DrawTrain [.t 15]),ia 3 (.alloc [.c (.b false),.nil 1]),ie (.stn 2 (.t 3) (.t 16))]) (.seq (.reg [iv 17 0,ia 18 (.call n_spec_DrawWay [.t 17]),ia 4 (.alloc [.c (.i 0),.c (.i 0)]),ie (.stn 2 (.t 4) (.t 18))]) (.seq (.rege [⟨0,false,[],ia 20 (.bld [.c (.i 0),.c (.i 0)] [(0,1,kI 0),(1,1,kI 0)])⟩,⟨0,false,[],ia 21 (.bld [.c (.i 0),.c (.i 0)] [(0,1,kI 500),(1,1,kI 500000)])⟩,⟨1,false,[],ia 22 (.bsl 2 [.t 20,.t 21])⟩,⟨0,false,[],ia 23 (.fld 1 (.t 4))⟩,⟨0,false,[],ia 24 (.ld1 (.t 23))⟩,⟨0,false,[],iv 25 0⟩,⟨0,false,[],ia 26 (.call n_laws_at [.t 25,kI 0])⟩,⟨0,false,[],ia 27 (.bin .rem (.t 26) (kI 60))⟩,⟨0,false,[],ia 28 (.bin .add (.t 24) (.t 27))⟩,⟨0,false,[],ia 29 (.call n_spec_NewReach [.t 22,.t 28,kI 0])⟩,⟨0,false,[],iv 19 29⟩,⟨0,false,[],ia 30 (.ext 0 (.t 19))⟩,⟨0,true,[],ia 31 (.ext 1 (.t 19))⟩,⟨1,false,[],ia 5 (.alloc [.nil 2,.c (.i 0),.nil 1])⟩,⟨2,false,[12],ie (.stn 3 (.t 5) (.t 30))⟩,⟨0,false,[],iv 6 31⟩]) (.seq (.rege [⟨0,false,[],ia 32 (.ldn 2 (.t 3))⟩,⟨0,false,[],iv 33 0⟩,⟨0,false,[],ia 34 (.call n_laws_at [.t 33,kI 1])⟩,⟨0,false,[],ia 35 (.fld 0 (.t 4))⟩,⟨0,false,[],ia 36 (.ld1 (.t 35))⟩,⟨0,false,[],ia 37 (.bin .add (.t 36) (kI 1))⟩,⟨0,false,[],ia 38 (.bin .rem (.t 34) (.t 37))⟩,⟨0,false,[],ia 39 (.bld [.c (.b false),.nil 1,.c (.i 0)] [(0,2,.t 32),(2,1,.t 38)])⟩,⟨1,false,[],ia 7 (.alloc [.c (.b false),.nil 1,.c (.i 0)])⟩,⟨2,false,[],ie (.stn 3 (.t 7) (.t 39))⟩]) (.seq (.reg [ia 40 (.ldn 3 (.t 7)),ia 41 (.ldn 2 (.t 4)),ia 42 (.ldn 3 (.t 5)),ia 43 (.call n_impl_TimeTo [.t 40,.t 41,.t 42]),iv 8 43]) (.seq (.regq [ia 44 (.ldn 2 (.t 4)),ia 45 (.ldn 3 (.t 5)),ia 46 (.call n_impl_DepthIn [.t 44,.t 45]),ia 47 (.ldn 2 (.t 3)),ia 48 (.call n_spec_DraughtOf [.t 47]),ia 49 (.bin .geq (.t 46) (.t 48)),iv 9 49]) (.seq (.reg [ia 50 (.ldn 3 (.t 7)),ia 51 (.bsl 3 [.t 50]),ia 52 (.ldn 2 (.t 4)),ia 53 (.ldn 3 (.t 5)),ia 54 (.call n_impl_GroundedOf [.t 51,.t 52,.t 53]),iv 10 54]) (.seq (.seq (.reg [ia 11 (.mv (kI 0))]) (.block 0 (.loop (.seq (.seq (.reg [iv 55 11,iv 56 8,ia 57 (.bin .lss (.t 55) (.t 56))]) (.cond (.t 57) (.skip) (.exit 0))) (.seq (.block 1 (.seq (.seq (.reg [ia 60 (.ldn 3 (.t 7)),ia 61 (.ldn 2 (.t 4)),ia 62 (.call n_impl_AtEnd [.t 60,.t 61])]) (.cond (.t 62) (.seq (.reg [ia 2 (.mv (kB false))]) (.ret)) (.skip))) (.seq (.reg [ia 63 (.ldn 3 (.t 7)),ia 64 (.ldn 2 (.t 4)),ia 65 (.ldn 3 (.t 5)),ia 66 (.call n_impl_MoveOne [.t 63,.t 64,.t 65]),ie (.stn 3 (.t 7) (.t 66))]) (.seq (.reg [ia 67 (.ldn 3 (.t 7)),ia 68 (.ldn 2 (.t 4)),ia 69 (.call n_impl_MoverOk [.t 67,.t 68]),ia 70 (.not (.t 69))]) (.cond (.t 70) (.seq (.reg [ia 2 (.mv (kB false))]) (.ret)) (.skip)))))) (.reg [iv 58 11,ia 59 (.bin .add (.t 58) (kI 1)),iv 11 59])))))) (.seq (.reg [ia 71 (.ldn 3 (.t 7)),ia 72 (.ldn 2 (.t 4)),ia 73 (.ldn 3 (.t 5)),ia 74 (.call n_impl_MoveOne [.t 71,.t 72,.t 73]),ia 12 (.alloc [.c (.b false),.nil 1,.c (.i 0)]),ie (.stn 3 (.t 12) (.t 74))]) (.seq (.regq [iv 75 8,ia 76 (.bin .lss (.t 75) (kI 0)),iv 77 9,ia 78 (.not (.t 77)),iv 79 78,ig 79 true 80 (.ldn 3 (.t 7)),ig 79 true 81 (.ldn 2 (.t 4)),ig 79 true 82 (.call n_impl_AtEnd [.t 80,.t 81]),ig 79 true 83 (.not (.t 82)),ia 84 (.pick (.t 79) (.t 83) (kB false)),ia 85 (.beq false (.t 76) (.t 84)),iv 86 85,ig 86 true 87 (.mv (.t 8)),ig 86 true 88 (.bin .lss (.t 87) (kI 0)),ig 86 true 89 (.mv (.t 88)),ig 89 false 90 (.ldn 3 (.t 7)),ig 89 false 91 (.ldn 2 (.t 4)),ig 89 false 92 (.call n_impl_AtEnd [.t 90,.t 91]),ig 86 true 93 (.pick (.t 89) (kB true) (.t 92)),ia 94 (.pick (.t 86) (.t 93) (kB false)),iv 95 94,ig 95 true 96 (.mv (.t 9)),ig 95 true 97 (.mv (.t 96)),ig 97 false 98 (.fld 2 (.t 12)),ig 97 false 99 (.ld1 (.t 98)),ig 97 false 100 (.fld 2 (.t 7)),ig 97 false 101 (.ld1 (.t 100)),ig 97 false 102 (.bin .eql (.t 99) (.t 101)),ig 95 true 103 (.pick (.t 97) (kB true) (.t 102)),ia 104 (.pick (.t 95) (.t 103) (kB false)),iv 105 104,ig 105 true 106 (.mv (.t 10)),ig 105 true 107 (.len (.t 106)),ig 105 true 108 (.bin .eql (.t 107) (kI 1)),ig 105 true 109 (.mv (.t 9)),ig 105 true 110 (.not (.t 109)),ig 105 true 111 (.beq false (.t 108) (.t 110)),ia 112 (.pick (.t 105) (.t 111) (kB false)),iv 113 112,ig 113 true 114 (.ldn 2 (.t 3)),ig 113 true 115 (.call n_impl_PaceOf [.t 114,kI 100]),ig 113 true 116 (.ldn 2 (.t 3)),ig 113 true 117 (.call n_spec_SpeedOf [.t 116]),ig 113 true 118 (.bin .eql (.t 115) (.t 117)),ia 119 (.pick (.t 113) (.t 118) (kB false)),iv 2 119]) (.ret))))))))))))
theorem h_laws_FnSailing : Has Try.prog n_laws_FnSailing 120 c_laws_FnSailing [.t 2] := ⟨by decide, Try.f3, _, Try.func3, rfl, rfl, ⟨none, by kernel_rfl⟩, by kernel_rfl⟩
def c_laws_big : SC := .seq (.reg [ia 2 (.mv (kB false))]) (.seq (.reg [iv 3 0,ia 4 (.len (.t 3)),ia 5 (.bin .gtr (.t 4) (kI 1048576)),iv 2 5]) (.ret))
theorem h_laws_big : Has Try.prog n_laws_big 6 c_laws_big [.t 2] := ⟨by decide, Try.f7, _, Try.func7, rfl, rfl, ⟨none, by kernel_rfl⟩, by kernel_rfl⟩
def c_spec_DrawTrain : SC := .seq (.reg [ia 2 (.alloc [.c (.b false),.nil 1])]) (.seq (.reg [iv 3 0,ia 4 (.call n_spec_l01New [.t 3]),ia 5 (.call n_spec_l04Train [.t 4,kI 1]),ie (.stn 2 (.t 2) (.t 5))]) (.ret))
theorem h_spec_DrawTrain : Has Try.prog n_spec_DrawTrain 6 c_spec_DrawTrain [.cl 2 2] := ⟨by decide, Try.f8, _, Try.func8, rfl, rfl, ⟨none, by kernel_rfl⟩, by kernel_rfl⟩
def c_spec_DrawWay : SC := .seq (.reg [ia 2 (.alloc [.c (.i 0),.c (.i 0)])]) (.seq (.reg [iv 3 0,ia 4 (.call n_spec_l01New [.t 3]),ia 5 (.call n_spec_l07Way [.t 4]),ie (.stn 2 (.t 2) (.t 5))]) (.ret))
theorem h_spec_DrawWay : Has Try.prog n_spec_DrawWay 6 c_spec_DrawWay [.cl 2 2] := ⟨by decide, Try.f9, _, Try.func9, rfl, rfl, ⟨none, by kernel_rfl⟩, by kernel_rfl⟩
def c_spec_NewReach : SC := .seq (.reg [ia 6 (.alloc [.nil 2,.c (.i 0),.nil 1]),ia 7 (.mv (kB false))]) (.seq (.seq (.reg [iv 9 2,ia 10 (.call n_spec_l01In [.t 9,kI 0,kI 12]),ia 11 (.not (.t 10))]) (.cond (.t 11) (.seq (.reg [ia 12 (.bld [.nil 2,.c (.i 0),.nil 1] []),ie (.stn 3 (.t 6) (.t 12)),ia 7 (.mv (kB false))]) (.ret)) (.skip))) (.seq (.rege [⟨1,false,[],ia 13 (.bsl 2 [])⟩,⟨0,false,[],iv 14 0⟩,⟨2,true,[],ia 15 (.app 2 16 (.t 13) (.t 14))⟩,⟨0,false,[2],iv 16 0⟩,⟨0,false,[2],iv 17 1⟩,⟨0,false,[],ia 18 (.call n_spec_ValueAt [.t 16,.t 17])⟩,⟨0,false,[2],iv 19 2⟩,⟨1,false,[2],ia 20 (.mks 1 8 [.i 0] (.t 19) (.t 19))⟩,⟨0,false,[],ia 21 (.bld [.nil 2,.c (.i 0),.nil 1] [(0,1,.t 15),(1,1,.t 18),(2,1,.t 20)])⟩,⟨1,false,[2],ia 8 (.alloc [.nil 2,.c (.i 0),.nil 1])⟩,⟨2,false,[],ie (.stn 3 (.t 8) (.t 21))⟩]) (.seq (.seq (.reg [ia 22 (.ldn 3 (.t 8)),ia 23 (.call n_spec_ReachOk [.t 22]),ia 24 (.not (.t 23))]) (.cond (.t 24) (.seq (.reg [ia 25 (.bld [.nil 2,.c (.i 0),.nil 1] []),ie (.stn 3 (.t 6) (.t 25)),ia 7 (.mv (kB false))]) (.ret)) (.skip))) (.seq (.reg [ia 26 (.ldn 3 (.t 8)),ie (.stn 3 (.t 6) (.t 26)),ia 7 (.mv (kB true))]) (.ret)))))
theorem h_spec_NewReach : Has Try.prog n_spec_NewReach 27 c_spec_NewReach [.cl 6 3, .t 7] := ⟨by decide, Try.f10, _, Try.func10, rfl, rfl, ⟨none, by kernel_rfl⟩, by kernel_rfl⟩
def c_laws_at : SC := .seq (.reg [ia 4 (.mv (kI 0))]) (.seq (.seq (.reg [iv 5 0,ia 6 (.len (.t 5)),ia 7 (.bin .eql (.t 6) (kI 0))]) (.cond (.t 7) (.seq (.reg [ia 4 (.mv (kI 0))]) (.ret)) (.skip))) (.seq (.reg [iv 8 0,iv 9 1,ia 10 (.bin .mul (.t 9) (kI 5)),ia 11 (.bin .add (.t 10) (kI 1)),iv 12 0,ia 13 (.len (.t 12)),ia 14 (.bin .rem (.t 11) (.t 13)),ia 15 (.idx 1 (.t 8) (.t 14)),ia 16 (.ld1 (.t 15)),ia 17 (.cvt 0 (.t 16)),iv 4 17]) (.ret)))
theorem h_laws_at : Has Try.prog n_laws_at 18 c_laws_at [.t 4] := ⟨by decide, Try.f11, _, Try.func11, rfl, rfl, ⟨none, by kernel_rfl⟩, by kernel_rfl⟩
def c_impl_TimeTo : SC := .seq (.reg [ia 3 (.box 3 (.t 0)),ia 4 (.box 2 (.t 1)),ia 5 (.box 3 (.t 2)),ia 6 (.mv (kI 0))]) (.seq (.seq (.reg [ia 9 (.ldn 3 (.t 3)),ia 10 (.ldn 2 (.t 4)),ia 11 (.call n_impl_MoverOk [.t 9,.t 10]),ia 12 (.not (.t 11)),iv 13 12,ig 13 false 14 (.ldn 3 (.t 5)),ig 13 false 15 (.call n_impl_ReachOk [.t 14]),ig 13 false 16 (.not (.t 15)),ia 17 (.pick (.t 13) (kB true) (.t 16))]) (.cond (.t 17) (.seq (.reg [ia 6 (.mv (kI (-1)))]) (.ret)) (.skip))) (.seq (.reg [ia 18 (.fld 2 (.t 3)),ia 19 (.ld1 (.t 18)),iv 7 19]) (.seq (.seq (.reg [ia 20 (.fld 0 (.t 3)),ia 21 (.fld 0 (.t 20)),ia 22 (.ld1 (.t 21)),ia 23 (.not (.t 22))]) (.cond (.t 23) (.reg [ia 24 (.fld 0 (.t 4)),ia 25 (.ld1 (.t 24)),ia 26 (.fld 2 (.t 3)),ia 27 (.ld1 (.t 26)),ia 28 (.bin .sub (.t 25) (.t 27)),iv 7 28]) (.skip))) (.seq (.seq (.reg [iv 29 7,ia 30 (.bin .eql (.t 29) (kI 0))]) (.cond (.t 30) (.seq (.reg [ia 6 (.mv (kI 0))]) (.ret)) (.skip))) (.seq (.regq [ia 31 (.fld 0 (.t 3)),ia 32 (.ldn 2 (.t 31)),ia 33 (.ldn 2 (.t 4)),ia 34 (.ldn 3 (.t 5)),ia 35 (.call n_impl_DepthIn [.t 33,.t 34]),ia 36 (.call n_impl_PaceOf [.t 32,.t 35]),iv 8 36]) (.seq (.seq (.reg [iv 37 8,ia 38 (.bin .eql (.t 37) (kI 0))]) (.cond (.t 38) (.seq (.reg [ia 6 (.mv (kI (-1)))]) (.ret)) (.skip))) (.seq (.reg [iv 39 7,iv 40 8,ia 41 (.bin .add (.t 39) (.t 40)),ia 42 (.bin .sub (.t 41) (kI 1)),iv 43 8,ia 44 (.bin .quo (.t 42) (.t 43)),iv 6 44]) (.ret))))))))
theorem h_impl_TimeTo : Has Try.prog n_impl_TimeTo 45 c_impl_TimeTo [.t 6] := ⟨by decide, Try.f12, _, Try.func12, rfl, rfl, ⟨none, by kernel_rfl⟩, by kernel_rfl⟩
def c_impl_DepthIn : SC := .seq (.reg [ia 2 (.box 2 (.t 0)),ia 3 (.box 3 (.t 1)),ia 4 (.mv (kI 0))]) (.seq (.seq (.reg [ia 5 (.ldn 2 (.t 2)),ia 6 (.call n_impl_WayOk [.t 5]),ia 7 (.not (.t 6)),iv 8 7,ig 8 false 9 (.ldn 3 (.t 3)),ig 8 false 10 (.call n_impl_ReachOk [.t 9]),ig 8 false 11 (.not (.t 10)),ia 12 (.pick (.t 8) (kB true) (.t 11))]) (.cond (.t 12) (.seq (.reg [ia 4 (.mv (kI 0))]) (.ret)) (.skip))) (.seq (.regq [ia 13 (.ldn 3 (.t 3)),ia 14 (.call n_impl_LevelOf [.t 13]),ia 15 (.fld 1 (.t 2)),ia 16 (.ld1 (.t 15)),ia 17 (.bin .sub (.t 14) (.t 16)),ia 18 (.mx [kI 0,.t 17]),iv 4 18]) (.ret)))
theorem h_impl_DepthIn : Has Try.prog n_impl_DepthIn 19 c_impl_DepthIn [.t 4] := ⟨by decide, Try.f13, _, Try.func13, rfl, rfl, ⟨none, by kernel_rfl⟩, by kernel_rfl⟩
def c_spec_DraughtOf : SC := .seq (.reg [ia 1 (.box 2 (.t 0)),ia 2 (.mv (kI 0))]) (.seq (.reg [ia 3 (.mv (kI 0))]) (.seq (.reg [ia 6 (.ldn 2 (.t 1)),ia 7 (.call n_spec_l04Boats [.t 6]),iv 4 7]) (.seq (.seq (.reg [ia 5 (.mv (kI 0))]) (.block 0 (.loop (.seq (.seq (.reg [iv 8 5,iv 9 4,ia 10 (.len (.t 9)),ia 11 (.bin .lss (.t 8) (.t 10)),iv 12 11,ig 12 true 13 (.ldn 2 (.t 1)),ig 12 true 14 (.call n_spec_TrainOk [.t 13]),ia 15 (.pick (.t 12) (.t 14) (kB false))]) (.cond (.t 15) (.skip) (.exit 0))) (.seq (.block 1 (.reg [iv 18 3,iv 19 4,iv 20 5,ia 21 (.idx 6 (.t 19) (.t 20)),ia 22 (.fld 3 (.t 21)),ia 23 (.ld1 (.t 22)),ia 24 (.mx [.t 18,.t 23]),iv 3 24])) (.reg [iv 16 5,ia 17 (.bin .add (.t 16) (kI 1)),iv 5 17])))))) (.seq (.reg [iv 25 3,iv 2 25]) (.ret)))))
theorem h_spec_DraughtOf : Has Try.prog n_spec_DraughtOf 26 c_spec_DraughtOf [.t 2] := ⟨by decide, Try.f14, _, Try.func14, rfl, rfl, ⟨none, by kernel_rfl⟩, by kernel_rfl⟩
def c_impl_GroundedOf : SC := .seq (.reg [ia 4 (.box 2 (.t 1)),ia 5 (.box 3 (.t 2)),ia 6 (.mv (.k (.nil 1)))]) (.seq (.seq (.reg [ia 11 (.ldn 2 (.t 4)),ia 12 (.call n_impl_WayOk [.t 11]),ia 13 (.not (.t 12)),iv 14 13,ig 14 false 15 (.ldn 3 (.t 5)),ig 14 false 16 (.call n_impl_ReachOk [.t 15]),ig 14 false 17 (.not (.t 16)),ia 18 (.pick (.t 14) (kB true) (.t 17))]) (.cond (.t 18) (.seq (.reg [ia 6 (.mv (.k (.nil 1)))]) (.ret)) (.skip))) (.seq (.reg [ia 19 (.ldn 2 (.t 4)),ia 20 (.ldn 3 (.t 5)),ia 21 (.call n_impl_DepthIn [.t 19,.t 20]),iv 7 21]) (.seq (.reg [ia 8 (.mv (.k (.nil 1)))]) (.seq (.seq (.reg [iv 22 0,ia 23 (.len (.t 22)),ia 24 (.mv (kI 0))]) (.block 0 (.loop (.seq (.reg [ia 25 (.bin .lss (.t 24) (.t 23))]) (.seq (.cond (.t 25) (.skip) (.exit 0)) (.seq (.block 1 (.seq (.reg [ia 26 (.idx 3 (.t 22) (.t 24)),ia 27 (.ldn 3 (.t 26)),ia 10 (.alloc [.c (.b false),.nil 1,.c (.i 0)]),ie (.stn 3 (.t 10) (.t 27))]) (.seq (.reg [ia 28 (.ldn 3 (.t 10)),ia 29 (.ldn 2 (.t 4)),ia 30 (.call n_impl_MoverOk [.t 28,.t 29]),iv 31 30,ig 31 true 32 (.fld 0 (.t 10)),ig 31 true 33 (.ldn 2 (.t 32)),ig 31 true 34 (.mv (.t 7)),ig 31 true 35 (.call n_impl_PaceOf [.t 33,.t 34]),ig 31 true 36 (.bin .eql (.t 35) (kI 0)),ia 37 (.pick (.t 31) (.t 36) (kB false))]) (.cond (.t 37) (.reg [iv 38 8,ia 39 (.fld 0 (.t 10)),ia 40 (.ldn 2 (.t 39)),ia 41 (.call n_impl_IdsOf [.t 40]),ia 42 (.idx 1 (.t 41) (kI 0)),ia 43 (.ld1 (.t 42)),ia 44 (.bsl 1 [.t 43]),ia 45 (.app 1 8 (.t 38) (.t 44)),iv 8 45]) (.skip))))) (.reg [ia 46 (.bin .add (.t 24) (kI 1)),iv 24 46]))))))) (.seq (.reg [iv 47 8,iv 6 47]) (.ret))))))
theorem h_impl_GroundedOf : Has Try.prog n_impl_GroundedOf 48 c_impl_GroundedOf [.t 6] := ⟨by decide, Try.f15, _, Try.func15, rfl, rfl, ⟨none, by kernel_rfl⟩, by kernel_rfl⟩
def c_impl_AtEnd : SC := .seq (.reg [ia 2 (.box 3 (.t 0)),ia 3 (.box 2 (.t 1)),ia 4 (.mv (kB false))]) (.seq (.regq [ia 5 (.ldn 3 (.t 2)),ia 6 (.ldn 2 (.t 3)),ia 7 (.call n_impl_MoverOk [.t 5,.t 6]),iv 8 7,ig 8 true 9 (.fld 2 (.t 2)),ig 8 true 10 (.ld1 (.t 9)),ig 8 true 11 (.fld 0 (.t 2)),ig 8 true 12 (.ldn 2 (.t 11)),ig 8 true 13 (.ldn 2 (.t 3)),ig 8 true 14 (.call n_impl_endOf [.t 12,.t 13]),ig 8 true 15 (.bin .eql (.t 10) (.t 14)),ia 16 (.pick (.t 8) (.t 15) (kB false)),iv 4 16]) (.ret))
theorem h_impl_AtEnd : Has Try.prog n_impl_AtEnd 17 c_impl_AtEnd [.t 4] := ⟨by decide, Try.f16, _, Try.func16, rfl, rfl, ⟨none, by kernel_rfl⟩, by kernel_rfl⟩
def c_impl_MoveOne : SC := .seq (.reg [ia 3 (.box 3 (.t 0)),ia 4 (.box 2 (.t 1)),ia 5 (.box 3 (.t 2)),ia 6 (.alloc [.c (.b false),.nil 1,.c (.i 0)])]) (.seq (.reg [ia 8 (.ldn 3 (.t 3)),ia 9 (.ldn 2 (.t 4)),ia 10 (.ldn 3 (.t 5)),ia 11 (.call n_impl_moved [.t 8,.t 9,.t 10]),ia 7 (.alloc [.c (.b false),.nil 1,.c (.i 0)]),ie (.stn 3 (.t 7) (.t 11))]) (.seq (.reg [ia 12 (.fld 0 (.t 3)),ia 13 (.ldn 2 (.t 12)),ia 14 (.call n_impl_copyTrain [.t 13]),ia 15 (.fld 0 (.t 7)),ie (.stn 2 (.t 15) (.t 14))]) (.seq (.reg [ia 16 (.ldn 3 (.t 7)),ie (.stn 3 (.t 6) (.t 16))]) (.ret))))
theorem h_impl_MoveOne : Has Try.prog n_impl_MoveOne 17 c_impl_MoveOne [.cl 6 3] := ⟨by decide, Try.f17, _, Try.func17, rfl, rfl, ⟨none, by kernel_rfl⟩, by kernel_rfl⟩
def c_impl_MoverOk : SC := .seq (.reg [ia 2 (.box 3 (.t 0)),ia 3 (.box 2 (.t 1)),ia 4 (.mv (kB false))]) (.seq (.reg [ia 5 (.ldn 2 (.t 3)),ia 6 (.call n_impl_WayOk [.t 5]),iv 7 6,ig 7 true 8 (.fld 0 (.t 2)),ig 7 true 9 (.ldn 2 (.t 8)),ig 7 true 10 (.call n_impl_TrainOk [.t 9]),ia 11 (.pick (.t 7) (.t 10) (kB false)),iv 12 11,ig 12 true 13 (.fld 2 (.t 2)),ig 12 true 14 (.ld1 (.t 13)),ig 12 true 15 (.fld 0 (.t 3)),ig 12 true 16 (.ld1 (.t 15)),ig 12 true 17 (.call n_impl_inRange [.t 14,kI 0,.t 16]),ia 18 (.pick (.t 12) (.t 17) (kB false)),iv 4 18]) (.ret))
theorem h_impl_MoverOk : Has Try.prog n_impl_MoverOk 19 c_impl_MoverOk [.t 4] := ⟨by decide, Try.f18, _, Try.func18, rfl, rfl, ⟨none, by kernel_rfl⟩, by kernel_rfl⟩
def c_impl_PaceOf : SC := .seq (.reg [ia 2 (.box 2 (.t 0)),ia 4 (.mv (kI 0))]) (.seq (.seq (.reg [ia 5 (.ldn 2 (.t 2)),ia 6 (.call n_impl_TrainOk [.t 5]),ia 7 (.not (.t 6)),iv 8 7,ig 8 false 9 (.mv (.t 1)),ig 8 false 10 (.call n_impl_inRange [.t 9,kI 0,kI 1000000000]),ig 8 false 11 (.not (.t 10)),ia 12 (.pick (.t 8) (kB true) (.t 11)),iv 13 12,ig 13 false 14 (.mv (.t 1)),ig 13 false 15 (.ldn 2 (.t 2)),ig 13 false 16 (.call n_impl_DraughtOf [.t 15]),ig 13 false 17 (.bin .lss (.t 14) (.t 16)),ia 18 (.pick (.t 13) (kB true) (.t 17))]) (.cond (.t 18) (.seq (.reg [ia 4 (.mv (kI 0))]) (.ret)) (.skip))) (.seq (.seq (.reg [iv 19 1,ia 20 (.bin .mul (kI 2) (.t 19)),ia 21 (.ldn 2 (.t 2)),ia 22 (.call n_impl_DraughtOf [.t 21]),ia 23 (.bin .mul (kI 3) (.t 22)),ia 24 (.bin .lss (.t 20) (.t 23))]) (.cond (.t 24) (.seq (.reg [ia 25 (.ldn 2 (.t 2)),ia 26 (.call n_impl_SpeedOf [.t 25]),ia 27 (.bin .add (.t 26) (kI 1)),ia 28 (.bin .quo (.t 27) (kI 2)),iv 4 28]) (.ret)) (.skip))) (.seq (.reg [ia 29 (.ldn 2 (.t 2)),ia 30 (.call n_impl_SpeedOf [.t 29]),iv 4 30]) (.ret))))
theorem h_impl_PaceOf : Has Try.prog n_impl_PaceOf 31 c_impl_PaceOf [.t 4] := ⟨by decide, Try.f19, _, Try.func19, rfl, rfl, ⟨none, by kernel_rfl⟩, by kernel_rfl⟩
def c_spec_SpeedOf : SC := .seq (.reg [ia 1 (.box 2 (.t 0)),ia 2 (.mv (kI 0))]) (.seq (.reg [ia 6 (.ldn 2 (.t 1)),ia 7 (.call n_spec_l04Boats [.t 6]),iv 3 7]) (.seq (.seq (.reg [ia 8 (.ldn 2 (.t 1)),ia 9 (.call n_spec_TrainOk [.t 8]),ia 10 (.not (.t 9))]) (.cond (.t 10) (.seq (.reg [ia 2 (.mv (kI 0))]) (.ret)) (.skip))) (.seq (.reg [iv 11 3,ia 12 (.idx 6 (.t 11) (kI 0)),ia 13 (.fld 4 (.t 12)),ia 14 (.ld1 (.t 13)),iv 4 14]) (.seq (.seq (.reg [ia 5 (.mv (kI 0))]) (.block 0 (.loop (.seq (.seq (.reg [iv 15 5,iv 16 3,ia 17 (.len (.t 16)),ia 18 (.bin .lss (.t 15) (.t 17))]) (.cond (.t 18) (.skip) (.exit 0))) (.seq (.block 1 (.reg [iv 21 4,iv 22 3,iv 23 5,ia 24 (.idx 6 (.t 22) (.t 23)),ia 25 (.fld 4 (.t 24)),ia 26 (.ld1 (.t 25)),ia 27 (.mn [.t 21,.t 26]),iv 4 27])) (.reg [iv 19 5,ia 20 (.bin .add (.t 19) (kI 1)),iv 5 20])))))) (.seq (.reg [iv 28 4,iv 2 28]) (.ret))))))
theorem h_spec_SpeedOf : Has Try.prog n_spec_SpeedOf 29 c_spec_SpeedOf [.t 2] := ⟨by decide, Try.f20, _, Try.func20, rfl, rfl, ⟨none, by kernel_rfl⟩, by kernel_rfl⟩
def c_spec_l04Train : SC := .seq (.reg [ia 4 (.alloc [.c (.b false),.nil 1])]) (.seq (.reg [iv 9 0,ia 10 (.call n_spec_l01Once [.t 9,kI 2]),ia 11 (.bld [.c (.b false),.nil 1] [(0,1,.t 10)]),ia 5 (.alloc [.c (.b false),.nil 1]),ie (.stn 2 (.t 5) (.t 11))]) (.seq (.reg [iv 12 0,ia 13 (.call n_spec_l01Below [.t 12,kI 4]),ia 14 (.bin .add (kI 1) (.t 13)),iv 6 14]) (.seq (.seq (.reg [ia 7 (.mv (kI 0))]) (.block 0 (.loop (.seq (.seq (.reg [iv 15 7,iv 16 6,ia 17 (.bin .lss (.t 15) (.t 16))]) (.cond (.t 17) (.skip) (.exit 0))) (.seq (.block 1 (.seq (.reg [iv 20 0,iv 21 1,iv 22 7,ia 23 (.bin .add (.t 21) (.t 22)),ia 24 (.call n_spec_l04Boat [.t 20,.t 23]),ia 8 (.alloc [.c (.i 0),.c (.i 0),.c (.i 0),.c (.i 0),.c (.i 0),.c (.i 0)]),ie (.stn 6 (.t 8) (.t 24))]) (.seq (.reg [iv 25 7,ia 26 (.bin .gtr (.t 25) (kI 0)),iv 27 26,ig 27 true 28 (.mv (.t 0)),ig 27 true 29 (.call n_spec_l01Once [.t 28,kI 2]),ia 30 (.pick (.t 27) (.t 29) (kB false))]) (.cond (.t 30) (.rege [⟨0,true,[],ia 31 (.fld 1 (.t 5))⟩,⟨0,true,[],ia 32 (.ld1 (.t 31))⟩,⟨0,true,[],ia 33 (.fld 1 (.t 5))⟩,⟨0,true,[],ia 34 (.ld1 (.t 33))⟩,⟨0,true,[],ia 35 (.len (.t 34))⟩,⟨0,true,[],ia 36 (.bin .sub (.t 35) (kI 1))⟩,⟨0,false,[],ia 37 (.fld 1 (.t 5))⟩,⟨0,false,[],ia 38 (.ld1 (.t 37))⟩,⟨0,false,[],ia 39 (.fld 1 (.t 5))⟩,⟨0,false,[],ia 40 (.ld1 (.t 39))⟩,⟨0,false,[],ia 41 (.len (.t 40))⟩,⟨0,false,[],ia 42 (.bin .sub (.t 41) (kI 1))⟩,⟨0,false,[],ia 43 (.idx 1 (.t 38) (.t 42))⟩,⟨0,false,[],ia 44 (.ld1 (.t 43))⟩,⟨0,false,[],ia 45 (.ldn 6 (.t 8))⟩,⟨1,false,[],ia 46 (.bsl 6 [.t 45])⟩,⟨2,false,[0,1,2,3,4,5],ia 47 (.app 6 48 (.t 44) (.t 46))⟩,⟨0,false,[],ia 48 (.idx 1 (.t 32) (.t 36))⟩,⟨2,false,[],ie (.st1 (.t 48) (.t 47))⟩]) (.reg [ia 49 (.fld 1 (.t 5)),ia 50 (.ld1 (.t 49)),ia 51 (.ldn 6 (.t 8)),ia 52 (.bsl 6 [.t 51]),ia 53 (.bsl 1 [.t 52]),ia 54 (.app 1 24 (.t 50) (.t 53)),ia 55 (.fld 1 (.t 5)),ie (.st1 (.t 55) (.t 54))]))))) (.reg [iv 18 7,ia 19 (.bin .add (.t 18) (kI 1)),iv 7 19])))))) (.seq (.reg [ia 56 (.ldn 2 (.t 5)),ie (.stn 2 (.t 4) (.t 56))]) (.ret)))))
theorem h_spec_l04Train : Has Try.prog n_spec_l04Train 57 c_spec_l04Train [.cl 4 2] := ⟨by decide, Try.f43, _, Try.func43, rfl, rfl, ⟨none, by kernel_rfl⟩, by kernel_rfl⟩
def c_spec_l01New : SC := .seq (.reg [ia 2 (.mv (.k (.any)))]) (.seq (.reg [iv 5 0,ia 6 (.len (.t 5)),ia 7 (.bin .add (kI 33173) (.t 6)),iv 3 7]) (.seq (.seq (.reg [ia 4 (.mv (kI 0))]) (.block 0 (.loop (.seq (.seq (.reg [iv 8 4,iv 9 0,ia 10 (.len (.t 9)),ia 11 (.bin .lss (.t 8) (.t 10)),iv 12 11,ig 12 true 13 (.mv (.t 4)),ig 12 true 14 (.bin .lss (.t 13) (kI 4000)),ia 15 (.pick (.t 12) (.t 14) (kB false))]) (.cond (.t 15) (.skip) (.exit 0))) (.seq (.block 1 (.reg [iv 18 3,ia 19 (.bin .mul (.t 18) (kI 131)),iv 20 0,iv 21 4,ia 22 (.idx 1 (.t 20) (.t 21)),ia 23 (.ld1 (.t 22)),ia 24 (.cvt 0 (.t 23)),ia 25 (.bin .add (.t 19) (.t 24)),ia 26 (.bin .add (.t 25) (kI 7)),ia 27 (.bit .and (.t 26) (kI 1073741823)),iv 3 27])) (.reg [iv 16 4,ia 17 (.bin .add (.t 16) (kI 1)),iv 4 17])))))) (.seq (.reg [iv 28 0,iv 29 3,ia 30 (.bld [.nil 1,.c (.i 0),.c (.i 0)] [(0,1,.t 28),(2,1,.t 29)]),ia 31 (.box 3 (.t 30)),iv 2 31]) (.ret))))
theorem h_spec_l01New : Has Try.prog n_spec_l01New 32 c_spec_l01New [.t 2] := ⟨by decide, Try.f44, _, Try.func44, rfl, rfl, ⟨none, by kernel_rfl⟩, by kernel_rfl⟩
def c_spec_l07Way : SC := .seq (.reg [ia 2 (.alloc [.c (.i 0),.c (.i 0)])]) (.seq (.reg [iv 3 0,ia 4 (.bsl 1 [kI 1,kI 10,kI 50,kI 200]),ia 5 (.call n_spec_l01PickInt [.t 3,.t 4]),iv 6 0,ia 7 (.call n_spec_l01Below [.t 6,kI 60]),ia 8 (.bld [.c (.i 0),.c (.i 0)] [(0,1,.t 5),(1,1,.t 7)]),ie (.stn 2 (.t 2) (.t 8))]) (.ret))
theorem h_spec_l07Way : Has Try.prog n_spec_l07Way 9 c_spec_l07Way [.cl 2 2] := ⟨by decide, Try.f45, _, Try.func45, rfl, rfl, ⟨none, by kernel_rfl⟩, by kernel_rfl⟩
def c_spec_l01In : SC := .seq (.reg [ia 6 (.mv (kB false))]) (.seq (.reg [iv 7 0,iv 8 1,ia 9 (.bin .geq (.t 7) (.t 8)),iv 10 9,ig 10 true 11 (.mv (.t 0)),ig 10 true 12 (.mv (.t 2)),ig 10 true 13 (.bin .leq (.t 11) (.t 12)),ia 14 (.pick (.t 10) (.t 13) (kB false)),iv 6 14]) (.ret))
theorem h_spec_l01In : Has Try.prog n_spec_l01In 15 c_spec_l01In [.t 6] := ⟨by decide, Try.f46, _, Try.func46, rfl, rfl, ⟨none, by kernel_rfl⟩, by kernel_rfl⟩
def c_spec_ValueAt : SC := .seq (.reg [ia 4 (.mv (kI 0))]) (.seq (.seq (.reg [iv 9 0,ia 10 (.call n_spec_TableOk [.t 9]),ia 11 (.not (.t 10))]) (.cond (.t 11) (.seq (.reg [ia 4 (.mv (kI 0))]) (.ret)) (.skip))) (.seq (.reg [iv 12 0,ia 13 (.len (.t 12)),iv 5 13]) (.seq (.seq (.reg [iv 14 1,iv 15 0,ia 16 (.idx 2 (.t 15) (kI 0)),ia 17 (.fld 0 (.t 16)),ia 18 (.ld1 (.t 17)),ia 19 (.bin .leq (.t 14) (.t 18))]) (.cond (.t 19) (.seq (.reg [iv 20 0,ia 21 (.idx 2 (.t 20) (kI 0)),ia 22 (.fld 1 (.t 21)),ia 23 (.ld1 (.t 22)),iv 4 23]) (.ret)) (.skip))) (.seq (.seq (.reg [iv 24 1,iv 25 0,iv 26 5,ia 27 (.bin .sub (.t 26) (kI 1)),ia 28 (.idx 2 (.t 25) (.t 27)),ia 29 (.fld 0 (.t 28)),ia 30 (.ld1 (.t 29)),ia 31 (.bin .geq (.t 24) (.t 30))]) (.cond (.t 31) (.seq (.reg [iv 32 0,iv 33 5,ia 34 (.bin .sub (.t 33) (kI 1)),ia 35 (.idx 2 (.t 32) (.t 34)),ia 36 (.fld 1 (.t 35)),ia 37 (.ld1 (.t 36)),iv 4 37]) (.ret)) (.skip))) (.seq (.reg [ia 6 (.mv (kI 0))]) (.seq (.block 0 (.loop (.seq (.seq (.reg [iv 38 0,iv 39 6,ia 40 (.bin .add (.t 39) (kI 1)),ia 41 (.idx 2 (.t 38) (.t 40)),ia 42 (.fld 0 (.t 41)),ia 43 (.ld1 (.t 42)),iv 44 1,ia 45 (.bin .leq (.t 43) (.t 44))]) (.cond (.t 45) (.skip) (.exit 0))) (.block 1 (.reg [iv 46 6,ia 47 (.bin .add (.t 46) (kI 1)),iv 6 47]))))) (.seq (.reg [iv 48 0,iv 49 6,ia 50 (.idx 2 (.t 48) (.t 49)),ia 51 (.ldn 2 (.t 50)),ia 7 (.alloc [.c (.i 0),.c (.i 0)]),ie (.stn 2 (.t 7) (.t 51))]) (.seq (.reg [iv 52 0,iv 53 6,ia 54 (.bin .add (.t 53) (kI 1)),ia 55 (.idx 2 (.t 52) (.t 54)),ia 56 (.ldn 2 (.t 55)),ia 8 (.alloc [.c (.i 0),.c (.i 0)]),ie (.stn 2 (.t 8) (.t 56))]) (.seq (.regq [ia 57 (.fld 1 (.t 7)),ia 58 (.ld1 (.t 57)),iv 59 1,ia 60 (.fld 0 (.t 7)),ia 61 (.ld1 (.t 60)),ia 62 (.bin .sub (.t 59) (.t 61)),ia 63 (.fld 1 (.t 8)),ia 64 (.ld1 (.t 63)),ia 65 (.fld 1 (.t 7)),ia 66 (.ld1 (.t 65)),ia 67 (.bin .sub (.t 64) (.t 66)),ia 68 (.bin .mul (.t 62) (.t 67)),ia 69 (.fld 0 (.t 8)),ia 70 (.ld1 (.t 69)),ia 71 (.fld 0 (.t 7)),ia 72 (.ld1 (.t 71)),ia 73 (.bin .sub (.t 70) (.t 72)),ia 74 (.bin .quo (.t 68) (.t 73)),ia 75 (.bin .add (.t 58) (.t 74)),iv 4 75]) (.ret))))))))))
theorem h_spec_ValueAt : Has Try.prog n_spec_ValueAt 76 c_spec_ValueAt [.t 4] := ⟨by decide, Try.f47, _, Try.func47, rfl, rfl, ⟨none, by kernel_rfl⟩, by kernel_rfl⟩
def c_spec_ReachOk : SC := .seq (.reg [ia 1 (.box 3 (.t 0)),ia 2 (.mv (kB false))]) (.seq (.seq (.reg [ia 4 (.fld 0 (.t 1)),ia 5 (.ld1 (.t 4)),ia 6 (.call n_spec_TableOk [.t 5]),ia 7 (.not (.t 6)),iv 8 7,ig 8 false 9 (.fld 1 (.t 1)),ig 8 false 10 (.ld1 (.t 9)),ig 8 false 11 (.call n_spec_l01In [.t 10,kI 0,kI 1000000000]),ig 8 false 12 (.not (.t 11)),ia 13 (.pick (.t 8) (kB true) (.t 12)),iv 14 13,ig 14 false 15 (.fld 2 (.t 1)),ig 14 false 16 (.ld1 (.t 15)),ig 14 false 17 (.len (.t 16)),ig 14 false 18 (.bin .gtr (.t 17) (kI 12)),ia 19 (.pick (.t 14) (kB true) (.t 18))]) (.cond (.t 19) (.seq (.reg [ia 2 (.mv (kB false))]) (.ret)) (.skip))) (.seq (.seq (.reg [ia 3 (.mv (kI 0))]) (.block 0 (.loop (.seq (.seq (.reg [iv 20 3,ia 21 (.fld 2 (.t 1)),ia 22 (.ld1 (.t 21)),ia 23 (.len (.t 22)),ia 24 (.bin .lss (.t 20) (.t 23))]) (.cond (.t 24) (.skip) (.exit 0))) (.seq (.block 1 (.seq (.reg [ia 27 (.fld 2 (.t 1)),ia 28 (.ld1 (.t 27)),iv 29 3,ia 30 (.idx 1 (.t 28) (.t 29)),ia 31 (.ld1 (.t 30)),ia 32 (.call n_spec_l01In [.t 31,kI 0,kI 1000000000]),ia 33 (.not (.t 32))]) (.cond (.t 33) (.seq (.reg [ia 2 (.mv (kB false))]) (.ret)) (.skip)))) (.reg [iv 25 3,ia 26 (.bin .add (.t 25) (kI 1)),iv 3 26])))))) (.seq (.reg [ia 34 (.ldn 3 (.t 1)),ia 35 (.call n_spec_l02Sum [.t 34]),ia 36 (.bin .leq (.t 35) (kI 1000000000)),iv 2 36]) (.ret))))
theorem h_spec_ReachOk : Has Try.prog n_spec_ReachOk 37 c_spec_ReachOk [.t 2] := ⟨by decide, Try.f48, _, Try.func48, rfl, rfl, ⟨none, by kernel_rfl⟩, by kernel_rfl⟩
def c_impl_ReachOk : SC := .seq (.reg [ia 1 (.box 3 (.t 0)),ia 2 (.mv (kB false))]) (.seq (.seq (.reg [ia 6 (.fld 0 (.t 1)),ia 7 (.ld1 (.t 6)),ia 8 (.call n_impl_TableOk [.t 7]),ia 9 (.not (.t 8)),iv 10 9,ig 10 false 11 (.fld 1 (.t 1)),ig 10 false 12 (.ld1 (.t 11)),ig 10 false 13 (.call n_impl_inRange [.t 12,kI 0,kI 1000000000]),ig 10 false 14 (.not (.t 13)),ia 15 (.pick (.t 10) (kB true) (.t 14)),iv 16 15,ig 16 false 17 (.fld 2 (.t 1)),ig 16 false 18 (.ld1 (.t 17)),ig 16 false 19 (.len (.t 18)),ig 16 false 20 (.bin .gtr (.t 19) (kI 12)),ia 21 (.pick (.t 16) (kB true) (.t 20))]) (.cond (.t 21) (.seq (.reg [ia 2 (.mv (kB false))]) (.ret)) (.skip))) (.seq (.reg [ia 22 (.fld 1 (.t 1)),ia 23 (.ld1 (.t 22)),ia 24 (.bin .sub (kI 1000000000) (.t 23)),iv 3 24]) (.seq (.seq (.reg [ia 25 (.fld 2 (.t 1)),ia 26 (.ld1 (.t 25)),ia 27 (.len (.t 26)),ia 28 (.mv (kI 0))]) (.block 0 (.loop (.seq (.reg [ia 29 (.bin .lss (.t 28) (.t 27))]) (.seq (.cond (.t 29) (.skip) (.exit 0)) (.seq (.block 1 (.seq (.reg [ia 30 (.idx 1 (.t 26) (.t 28)),ia 31 (.ld1 (.t 30)),iv 5 31]) (.seq (.seq (.reg [iv 32 5,ia 33 (.bin .lss (.t 32) (kI 0)),iv 34 33,ig 34 false 35 (.mv (.t 5)),ig 34 false 36 (.mv (.t 3)),ig 34 false 37 (.bin .gtr (.t 35) (.t 36)),ia 38 (.pick (.t 34) (kB true) (.t 37))]) (.cond (.t 38) (.seq (.reg [ia 2 (.mv (kB false))]) (.ret)) (.skip))) (.reg [iv 39 3,iv 40 5,ia 41 (.bin .sub (.t 39) (.t 40)),iv 3 41])))) (.reg [ia 42 (.bin .add (.t 28) (kI 1)),iv 28 42]))))))) (.seq (.reg [ia 2 (.mv (kB true))]) (.ret)))))
theorem h_impl_ReachOk : Has Try.prog n_impl_ReachOk 43 c_impl_ReachOk [.t 2] := ⟨by decide, Try.f49, _, Try.func49, rfl, rfl, ⟨none, by kernel_rfl⟩, by kernel_rfl⟩
def c_impl_WayOk : SC := .seq (.reg [ia 1 (.box 2 (.t 0)),ia 2 (.mv (kB false))]) (.seq (.reg [ia 3 (.fld 0 (.t 1)),ia 4 (.ld1 (.t 3)),ia 5 (.call n_impl_inRange [.t 4,kI 1,kI 10000]),iv 6 5,ig 6 true 7 (.fld 1 (.t 1)),ig 6 true 8 (.ld1 (.t 7)),ig 6 true 9 (.call n_impl_inRange [.t 8,kI 0,kI 100000]),ia 10 (.pick (.t 6) (.t 9) (kB false)),iv 2 10]) (.ret))
theorem h_impl_WayOk : Has Try.prog n_impl_WayOk 11 c_impl_WayOk [.t 2] := ⟨by decide, Try.f50, _, Try.func50, rfl, rfl, ⟨none, by kernel_rfl⟩, by kernel_rfl⟩
def c_impl_LevelOf : SC := .seq (.reg [ia 1 (.box 3 (.t 0)),ia 2 (.mv (kI 0))]) (.seq (.seq (.reg [ia 5 (.ldn 3 (.t 1)),ia 6 (.call n_impl_ReachOk [.t 5]),ia 7 (.not (.t 6))]) (.cond (.t 7) (.seq (.reg [ia 2 (.mv (kI 0))]) (.ret)) (.skip))) (.seq (.reg [ia 9 (.fld 0 (.t 1)),ia 10 (.ld1 (.t 9)),ia 11 (.fld 1 (.t 1)),ia 12 (.ld1 (.t 11)),ia 13 (.call n_impl_PlaceOf [.t 10,.t 12]),iv 8 13,ia 14 (.ext 0 (.t 8)),ia 15 (.ext 1 (.t 8)),iv 3 14,iv 4 15]) (.seq (.seq (.reg [iv 16 4,ia 17 (.not (.t 16))]) (.cond (.t 17) (.seq (.reg [ia 18 (.fld 0 (.t 1)),ia 19 (.ld1 (.t 18)),ia 20 (.fld 0 (.t 1)),ia 21 (.ld1 (.t 20)),ia 22 (.len (.t 21)),ia 23 (.bin .sub (.t 22) (kI 1)),ia 24 (.idx 2 (.t 19) (.t 23)),ia 25 (.fld 0 (.t 24)),ia 26 (.ld1 (.t 25)),iv 2 26]) (.ret)) (.skip))) (.seq (.reg [iv 27 3,iv 2 27]) (.ret)))))
theorem h_impl_LevelOf : Has Try.prog n_impl_LevelOf 28 c_impl_LevelOf [.t 2] := ⟨by decide, Try.f51, _, Try.func51, rfl, rfl, ⟨none, by kernel_rfl⟩, by kernel_rfl⟩
def c_spec_l04Boats : SC := .seq (.reg [ia 1 (.box 2 (.t 0)),ia 2 (.mv (.k (.nil 6)))]) (.seq (.reg [ia 5 (.bsl 6 []),iv 3 5]) (.seq (.seq (.reg [ia 4 (.mv (kI 0))]) (.block 0 (.loop (.seq (.seq (.reg [iv 6 4,ia 7 (.fld 1 (.t 1)),ia 8 (.ld1 (.t 7)),ia 9 (.len (.t 8)),ia 10 (.bin .lss (.t 6) (.t 9))]) (.cond (.t 10) (.skip) (.exit 0))) (.seq (.block 1 (.reg [iv 13 3,ia 14 (.fld 1 (.t 1)),ia 15 (.ld1 (.t 14)),iv 16 4,ia 17 (.idx 1 (.t 15) (.t 16)),ia 18 (.ld1 (.t 17)),ia 19 (.app 6 48 (.t 13) (.t 18)),iv 3 19])) (.reg [iv 11 4,ia 12 (.bin .add (.t 11) (kI 1)),iv 4 12])))))) (.seq (.reg [iv 20 3,iv 2 20]) (.ret))))
theorem h_spec_l04Boats : Has Try.prog n_spec_l04Boats 21 c_spec_l04Boats [.t 2] := ⟨by decide, Try.f52, _, Try.func52, rfl, rfl, ⟨none, by kernel_rfl⟩, by kernel_rfl⟩
def c_spec_TrainOk : SC := .seq (.reg [ia 1 (.box 2 (.t 0)),ia 2 (.mv (kB false))]) (.seq (.reg [ia 7 (.ldn 2 (.t 1)),ia 8 (.call n_spec_l04Boats [.t 7]),iv 3 8]) (.seq (.seq (.reg [ia 4 (.mv (kI 0))]) (.block 0 (.loop (.seq (.seq (.reg [iv 9 4,ia 10 (.fld 1 (.t 1)),ia 11 (.ld1 (.t 10)),ia 12 (.len (.t 11)),ia 13 (.bin .lss (.t 9) (.t 12))]) (.cond (.t 13) (.skip) (.exit 0))) (.seq (.block 1 (.seq (.reg [ia 16 (.fld 1 (.t 1)),ia 17 (.ld1 (.t 16)),iv 18 4,ia 19 (.idx 1 (.t 17) (.t 18)),ia 20 (.ld1 (.t 19)),ia 21 (.len (.t 20)),ia 22 (.bin .eql (.t 21) (kI 0))]) (.cond (.t 22) (.seq (.reg [ia 2 (.mv (kB false))]) (.ret)) (.skip)))) (.reg [iv 14 4,ia 15 (.bin .add (.t 14) (kI 1)),iv 4 15])))))) (.seq (.seq (.reg [ia 5 (.mv (kI 0))]) (.block 2 (.loop (.seq (.seq (.reg [iv 23 5,iv 24 3,ia 25 (.len (.t 24)),ia 26 (.bin .lss (.t 23) (.t 25)),iv 27 26,ig 27 true 28 (.mv (.t 3)),ig 27 true 29 (.len (.t 28)),ig 27 true 30 (.bin .leq (.t 29) (kI 6)),ia 31 (.pick (.t 27) (.t 30) (kB false))]) (.cond (.t 31) (.skip) (.exit 2))) (.seq (.block 3 (.seq (.seq (.reg [iv 34 3,iv 35 5,ia 36 (.idx 6 (.t 34) (.t 35)),ia 37 (.ldn 6 (.t 36)),ia 38 (.call n_spec_BoatOk [.t 37]),ia 39 (.not (.t 38))]) (.cond (.t 39) (.seq (.reg [ia 2 (.mv (kB false))]) (.ret)) (.skip))) (.seq (.reg [ia 6 (.mv (kI 0))]) (.block 4 (.loop (.seq (.seq (.reg [iv 40 6,iv 41 5,ia 42 (.bin .lss (.t 40) (.t 41))]) (.cond (.t 42) (.skip) (.exit 4))) (.seq (.block 5 (.seq (.regq [iv 45 3,iv 46 6,ia 47 (.idx 6 (.t 45) (.t 46)),ia 48 (.fld 0 (.t 47)),ia 49 (.ld1 (.t 48)),iv 50 3,iv 51 5,ia 52 (.idx 6 (.t 50) (.t 51)),ia 53 (.fld 0 (.t 52)),ia 54 (.ld1 (.t 53)),ia 55 (.bin .eql (.t 49) (.t 54))]) (.cond (.t 55) (.seq (.reg [ia 2 (.mv (kB false))]) (.ret)) (.skip)))) (.reg [iv 43 6,ia 44 (.bin .add (.t 43) (kI 1)),iv 6 44])))))))) (.reg [iv 32 5,ia 33 (.bin .add (.t 32) (kI 1)),iv 5 33])))))) (.seq (.reg [iv 56 3,ia 57 (.len (.t 56)),ia 58 (.call n_spec_l01In [.t 57,kI 1,kI 6]),iv 2 58]) (.ret)))))
theorem h_spec_TrainOk : Has Try.prog n_spec_TrainOk 59 c_spec_TrainOk [.t 2] := ⟨by decide, Try.f53, _, Try.func53, rfl, rfl, ⟨none, by kernel_rfl⟩, by kernel_rfl⟩
def c_impl_IdsOf : SC := .seq (.reg [ia 1 (.box 2 (.t 0)),ia 2 (.mv (.k (.nil 1)))]) (.seq (.seq (.reg [ia 6 (.ldn 2 (.t 1)),ia 7 (.call n_impl_TrainOk [.t 6]),ia 8 (.not (.t 7))]) (.cond (.t 8) (.seq (.reg [ia 2 (.mv (.k (.nil 1)))]) (.ret)) (.skip))) (.seq (.reg [ia 3 (.mv (.k (.nil 1)))]) (.seq (.seq (.reg [ia 9 (.ldn 2 (.t 1)),ia 10 (.call n_impl_boatsOf [.t 9]),ia 11 (.len (.t 10)),ia 12 (.mv (kI 0))]) (.block 0 (.loop (.seq (.reg [ia 13 (.bin .lss (.t 12) (.t 11))]) (.seq (.cond (.t 13) (.skip) (.exit 0)) (.seq (.block 1 (.seq (.reg [ia 14 (.idx 6 (.t 10) (.t 12)),ia 15 (.ldn 6 (.t 14)),ia 5 (.alloc [.c (.i 0),.c (.i 0),.c (.i 0),.c (.i 0),.c (.i 0),.c (.i 0)]),ie (.stn 6 (.t 5) (.t 15))]) (.reg [iv 16 3,ia 17 (.fld 0 (.t 5)),ia 18 (.ld1 (.t 17)),ia 19 (.bsl 1 [.t 18]),ia 20 (.app 1 8 (.t 16) (.t 19)),iv 3 20]))) (.reg [ia 21 (.bin .add (.t 12) (kI 1)),iv 12 21]))))))) (.seq (.reg [iv 22 3,iv 2 22]) (.ret)))))
theorem h_impl_IdsOf : Has Try.prog n_impl_IdsOf 23 c_impl_IdsOf [.t 2] := ⟨by decide, Try.f54, _, Try.func54, rfl, rfl, ⟨none, by kernel_rfl⟩, by kernel_rfl⟩
def c_impl_endOf : SC := .seq (.reg [ia 2 (.box 2 (.t 0)),ia 3 (.box 2 (.t 1)),ia 4 (.mv (kI 0))]) (.seq (.seq (.reg [ia 5 (.fld 0 (.t 2)),ia 6 (.ld1 (.t 5))]) (.cond (.t 6) (.seq (.reg [ia 4 (.mv (kI 0))]) (.ret)) (.skip))) (.seq (.reg [ia 7 (.fld 0 (.t 3)),ia 8 (.ld1 (.t 7)),iv 4 8]) (.ret)))
theorem h_impl_endOf : Has Try.prog n_impl_endOf 9 c_impl_endOf [.t 4] := ⟨by decide, Try.f55, _, Try.func55, rfl, rfl, ⟨none, by kernel_rfl⟩, by kernel_rfl⟩
def c_impl_moved : SC := .seq (.reg [ia 3 (.box 3 (.t 0)),ia 4 (.box 2 (.t 1)),ia 5 (.box 3 (.t 2)),ia 6 (.alloc [.c (.b false),.nil 1,.c (.i 0)])]) (.seq (.seq (.reg [ia 8 (.ldn 3 (.t 3)),ia 9 (.ldn 2 (.t 4)),ia 10 (.call n_impl_MoverOk [.t 8,.t 9]),ia 11 (.not (.t 10)),iv 12 11,ig 12 false 13 (.ldn 3 (.t 5)),ig 12 false 14 (.call n_impl_ReachOk [.t 13]),ig 12 false 15 (.not (.t 14)),ia 16 (.pick (.t 12) (kB true) (.t 15))]) (.cond (.t 16) (.seq (.reg [ia 17 (.ldn 3 (.t 3)),ie (.stn 3 (.t 6) (.t 17))]) (.ret)) (.skip))) (.seq (.regq [ia 18 (.fld 0 (.t 3)),ia 19 (.ldn 2 (.t 18)),ia 20 (.ldn 2 (.t 4)),ia 21 (.ldn 3 (.t 5)),ia 22 (.call n_impl_DepthIn [.t 20,.t 21]),ia 23 (.call n_impl_PaceOf [.t 19,.t 22]),iv 7 23]) (.seq (.seq (.reg [ia 24 (.fld 0 (.t 3)),ia 25 (.fld 0 (.t 24)),ia 26 (.ld1 (.t 25))]) (.cond (.t 26) (.reg [ia 27 (.fld 2 (.t 3)),ia 28 (.ld1 (.t 27)),iv 29 7,ia 30 (.bin .sub (.t 28) (.t 29)),ia 31 (.mx [kI 0,.t 30]),ia 32 (.fld 2 (.t 3)),ie (.st1 (.t 32) (.t 31))]) (.reg [ia 33 (.fld 0 (.t 4)),ia 34 (.ld1 (.t 33)),ia 35 (.fld 2 (.t 3)),ia 36 (.ld1 (.t 35)),iv 37 7,ia 38 (.bin .add (.t 36) (.t 37)),ia 39 (.mn [.t 34,.t 38]),ia 40 (.fld 2 (.t 3)),ie (.st1 (.t 40) (.t 39))]))) (.seq (.reg [ia 41 (.ldn 3 (.t 3)),ie (.stn 3 (.t 6) (.t 41))]) (.ret)))))
theorem h_impl_moved : Has Try.prog n_impl_moved 42 c_impl_moved [.cl 6 3] := ⟨by decide, Try.f56, _, Try.func56, rfl, rfl, ⟨none, by kernel_rfl⟩, by kernel_rfl⟩
def c_impl_copyTrain : SC := .seq (.reg [ia 1 (.box 2 (.t 0)),ia 2 (.alloc [.c (.b false),.nil 1])]) (.seq (.rege [⟨0,false,[],ia 3 (.fld 0 (.t 1))⟩,⟨0,false,[],ia 4 (.ld1 (.t 3))⟩,⟨0,false,[],ia 5 (.fld 1 (.t 1))⟩,⟨0,false,[],ia 6 (.ld1 (.t 5))⟩,⟨0,false,[],ia 7 (.call n_impl_copyRows [.t 6])⟩,⟨0,false,[],ia 8 (.bld [.c (.b false),.nil 1] [(0,1,.t 4),(1,1,.t 7)])⟩,⟨2,false,[],ie (.stn 2 (.t 2) (.t 8))⟩]) (.ret))
theorem h_impl_copyTrain : Has Try.prog n_impl_copyTrain 9 c_impl_copyTrain [.cl 2 2] := ⟨by decide, Try.f57, _, Try.func57, rfl, rfl, ⟨none, by kernel_rfl⟩, by kernel_rfl⟩
def c_impl_TrainOk : SC := .seq (.reg [ia 1 (.box 2 (.t 0)),ia 2 (.mv (kB false))]) (.seq (.seq (.reg [ia 9 (.fld 1 (.t 1)),ia 10 (.ld1 (.t 9)),ia 11 (.len (.t 10)),ia 12 (.bin .eql (.t 11) (kI 0)),iv 13 12,ig 13 false 14 (.fld 1 (.t 1)),ig 13 false 15 (.ld1 (.t 14)),ig 13 false 16 (.len (.t 15)),ig 13 false 17 (.bin .gtr (.t 16) (kI 6)),ia 18 (.pick (.t 13) (kB true) (.t 17))]) (.cond (.t 18) (.seq (.reg [ia 2 (.mv (kB false))]) (.ret)) (.skip))) (.seq (.reg [ia 3 (.alloca 1 6 [.i 0])]) (.seq (.reg [ia 4 (.mv (kI 0))]) (.seq (.seq (.reg [ia 19 (.fld 1 (.t 1)),ia 20 (.ld1 (.t 19)),ia 21 (.len (.t 20)),ia 22 (.mv (kI 0))]) (.block 0 (.loop (.seq (.reg [ia 23 (.bin .lss (.t 22) (.t 21))]) (.seq (.cond (.t 23) (.skip) (.exit 0)) (.seq (.block 1 (.seq (.reg [ia 24 (.idx 1 (.t 20) (.t 22)),ia 25 (.ld1 (.t 24)),iv 6 25]) (.seq (.seq (.reg [iv 26 6,ia 27 (.len (.t 26)),ia 28 (.bin .eql (.t 27) (kI 0)),iv 29 28,ig 29 false 30 (.mv (.t 4)),ig 29 false 31 (.mv (.t 6)),ig 29 false 32 (.len (.t 31)),ig 29 false 33 (.bin .add (.t 30) (.t 32)),ig 29 false 34 (.bin .gtr (.t 33) (kI 6)),ia 35 (.pick (.t 29) (kB true) (.t 34))]) (.cond (.t 35) (.seq (.reg [ia 2 (.mv (kB false))]) (.ret)) (.skip))) (.seq (.reg [iv 36 6,ia 37 (.len (.t 36)),ia 38 (.mv (kI 0))]) (.block 2 (.loop (.seq (.reg [ia 39 (.bin .lss (.t 38) (.t 37))]) (.seq (.cond (.t 39) (.skip) (.exit 2)) (.seq (.block 3 (.seq (.reg [ia 40 (.idx 6 (.t 36) (.t 38)),ia 41 (.ldn 6 (.t 40)),ia 8 (.alloc [.c (.i 0),.c (.i 0),.c (.i 0),.c (.i 0),.c (.i 0),.c (.i 0)]),ie (.stn 6 (.t 8) (.t 41))]) (.seq (.seq (.regq [ia 42 (.ldn 6 (.t 8)),ia 43 (.call n_impl_BoatOk [.t 42]),ia 44 (.not (.t 43)),iv 45 44,ig 45 false 46 (.mv (.t 4)),ig 45 false 47 (.sla 1 6 (.t 3) (.t 46)),ig 45 false 48 (.fld 0 (.t 8)),ig 45 false 49 (.ld1 (.t 48)),ig 45 false 50 (.call n_slices_Contains___int_int_ [.t 47,.t 49]),ia 51 (.pick (.t 45) (kB true) (.t 50))]) (.cond (.t 51) (.seq (.reg [ia 2 (.mv (kB false))]) (.ret)) (.skip))) (.seq (.reg [iv 52 4,ia 53 (.fld 0 (.t 8)),ia 54 (.ld1 (.t 53)),ia 55 (.ida 1 6 (.t 3) (.t 52)),ie (.st1 (.t 55) (.t 54))]) (.reg [iv 56 4,ia 57 (.bin .add (.t 56) (kI 1)),iv 4 57]))))) (.reg [ia 58 (.bin .add (.t 38) (kI 1)),iv 38 58])))))))))) (.reg [ia 59 (.bin .add (.t 22) (kI 1)),iv 22 59]))))))) (.seq (.reg [ia 2 (.mv (kB true))]) (.ret))))))
theorem h_impl_TrainOk : Has Try.prog n_impl_TrainOk 60 c_impl_TrainOk [.t 2] := ⟨by decide, Try.f58, _, Try.func58, rfl, rfl, ⟨none, by kernel_rfl⟩, by kernel_rfl⟩
def c_impl_inRange : SC := .seq (.reg [ia 6 (.mv (kB false))]) (.seq (.reg [iv 7 0,iv 8 1,ia 9 (.bin .geq (.t 7) (.t 8)),iv 10 9,ig 10 true 11 (.mv (.t 0)),ig 10 true 12 (.mv (.t 2)),ig 10 true 13 (.bin .leq (.t 11) (.t 12)),ia 14 (.pick (.t 10) (.t 13) (kB false)),iv 6 14]) (.ret))
theorem h_impl_inRange : Has Try.prog n_impl_inRange 15 c_impl_inRange [.t 6] := ⟨by decide, Try.f59, _, Try.func59, rfl, rfl, ⟨none, by kernel_rfl⟩, by kernel_rfl⟩
def c_impl_DraughtOf : SC := .seq (.reg [ia 1 (.box 2 (.t 0)),ia 2 (.mv (kI 0))]) (.seq (.seq (.reg [ia 6 (.ldn 2 (.t 1)),ia 7 (.call n_impl_TrainOk [.t 6]),ia 8 (.not (.t 7))]) (.cond (.t 8) (.seq (.reg [ia 2 (.mv (kI 0))]) (.ret)) (.skip))) (.seq (.reg [ia 3 (.mv (kI 0))]) (.seq (.seq (.reg [ia 9 (.ldn 2 (.t 1)),ia 10 (.call n_impl_boatsOf [.t 9]),ia 11 (.len (.t 10)),ia 12 (.mv (kI 0))]) (.block 0 (.loop (.seq (.reg [ia 13 (.bin .lss (.t 12) (.t 11))]) (.seq (.cond (.t 13) (.skip) (.exit 0)) (.seq (.block 1 (.seq (.reg [ia 14 (.idx 6 (.t 10) (.t 12)),ia 15 (.ldn 6 (.t 14)),ia 5 (.alloc [.c (.i 0),.c (.i 0),.c (.i 0),.c (.i 0),.c (.i 0),.c (.i 0)]),ie (.stn 6 (.t 5) (.t 15))]) (.reg [iv 16 3,ia 17 (.fld 3 (.t 5)),ia 18 (.ld1 (.t 17)),ia 19 (.mx [.t 16,.t 18]),iv 3 19]))) (.reg [ia 20 (.bin .add (.t 12) (kI 1)),iv 12 20]))))))) (.seq (.reg [iv 21 3,iv 2 21]) (.ret)))))
theorem h_impl_DraughtOf : Has Try.prog n_impl_DraughtOf 22 c_impl_DraughtOf [.t 2] := ⟨by decide, Try.f60, _, Try.func60, rfl, rfl, ⟨none, by kernel_rfl⟩, by kernel_rfl⟩
def c_impl_SpeedOf : SC := .seq (.reg [ia 1 (.box 2 (.t 0)),ia 2 (.mv (kI 0))]) (.seq (.seq (.reg [ia 6 (.ldn 2 (.t 1)),ia 7 (.call n_impl_TrainOk [.t 6]),ia 8 (.not (.t 7))]) (.cond (.t 8) (.seq (.reg [ia 2 (.mv (kI 0))]) (.ret)) (.skip))) (.seq (.reg [ia 9 (.fld 1 (.t 1)),ia 10 (.ld1 (.t 9)),ia 11 (.idx 1 (.t 10) (kI 0)),ia 12 (.ld1 (.t 11)),ia 13 (.idx 6 (.t 12) (kI 0)),ia 14 (.fld 4 (.t 13)),ia 15 (.ld1 (.t 14)),iv 3 15]) (.seq (.seq (.reg [ia 16 (.ldn 2 (.t 1)),ia 17 (.call n_impl_boatsOf [.t 16]),ia 18 (.len (.t 17)),ia 19 (.mv (kI 0))]) (.block 0 (.loop (.seq (.reg [ia 20 (.bin .lss (.t 19) (.t 18))]) (.seq (.cond (.t 20) (.skip) (.exit 0)) (.seq (.block 1 (.seq (.reg [ia 21 (.idx 6 (.t 17) (.t 19)),ia 22 (.ldn 6 (.t 21)),ia 5 (.alloc [.c (.i 0),.c (.i 0),.c (.i 0),.c (.i 0),.c (.i 0),.c (.i 0)]),ie (.stn 6 (.t 5) (.t 22))]) (.reg [iv 23 3,ia 24 (.fld 4 (.t 5)),ia 25 (.ld1 (.t 24)),ia 26 (.mn [.t 23,.t 25]),iv 3 26]))) (.reg [ia 27 (.bin .add (.t 19) (kI 1)),iv 19 27]))))))) (.seq (.reg [iv 28 3,iv 2 28]) (.ret)))))
theorem h_impl_SpeedOf : Has Try.prog n_impl_SpeedOf 29 c_impl_SpeedOf [.t 2] := ⟨by decide, Try.f61, _, Try.func61, rfl, rfl, ⟨none, by kernel_rfl⟩, by kernel_rfl⟩
def c_spec_l01Once : SC := .seq (.reg [ia 4 (.mv (kB false))]) (.seq (.reg [iv 5 0,iv 6 1,ia 7 (.call n_spec_l01Below [.t 5,.t 6]),ia 8 (.bin .eql (.t 7) (kI 0)),iv 4 8]) (.ret))
theorem h_spec_l01Once : Has Try.prog n_spec_l01Once 9 c_spec_l01Once [.t 4] := ⟨by decide, Try.f82, _, Try.func82, rfl, rfl, ⟨none, by kernel_rfl⟩, by kernel_rfl⟩
def c_spec_l01Below : SC := .seq (.reg [ia 4 (.mv (kI 0))]) (.seq (.seq (.reg [iv 9 1,ia 10 (.bin .leq (.t 9) (kI 0))]) (.cond (.t 10) (.seq (.reg [ia 4 (.mv (kI 0))]) (.ret)) (.skip))) (.seq (.seq (.reg [iv 11 1,ia 12 (.bin .leq (.t 11) (kI 256))]) (.cond (.t 12) (.seq (.reg [iv 13 0,ia 14 (.call n_spec_l01Byte [.t 13]),iv 15 1,ia 16 (.bin .rem (.t 14) (.t 15)),iv 4 16]) (.ret)) (.skip))) (.seq (.reg [iv 17 0,ia 18 (.call n_spec_l01Byte [.t 17]),iv 5 18]) (.seq (.reg [iv 19 0,ia 20 (.call n_spec_l01Byte [.t 19]),iv 6 20]) (.seq (.reg [iv 21 0,ia 22 (.call n_spec_l01Byte [.t 21]),iv 7 22]) (.seq (.reg [iv 23 0,ia 24 (.call n_spec_l01Byte [.t 23]),iv 8 24]) (.seq (.reg [iv 25 5,ia 26 (.bin .mul (.t 25) (kI 16777216)),iv 27 6,ia 28 (.bin .mul (.t 27) (kI 65536)),ia 29 (.bin .add (.t 26) (.t 28)),iv 30 7,ia 31 (.bin .mul (.t 30) (kI 256)),ia 32 (.bin .add (.t 29) (.t 31)),iv 33 8,ia 34 (.bin .add (.t 32) (.t 33)),iv 35 1,ia 36 (.bin .rem (.t 34) (.t 35)),iv 4 36]) (.ret))))))))
theorem h_spec_l01Below : Has Try.prog n_spec_l01Below 37 c_spec_l01Below [.t 4] := ⟨by decide, Try.f83, _, Try.func83, rfl, rfl, ⟨none, by kernel_rfl⟩, by kernel_rfl⟩
def c_spec_l04Boat : SC := .seq (.reg [ia 4 (.alloc [.c (.i 0),.c (.i 0),.c (.i 0),.c (.i 0),.c (.i 0),.c (.i 0)])]) (.seq (.reg [iv 5 1,iv 6 0,ia 7 (.bsl 1 [kI 5,kI 12,kI 30,kI 80]),ia 8 (.call n_spec_l01PickInt [.t 6,.t 7]),iv 9 0,ia 10 (.call n_spec_l01Below [.t 9,kI 9]),ia 11 (.bin .add (kI 1) (.t 10)),iv 12 0,ia 13 (.call n_spec_l01Below [.t 12,kI 30]),ia 14 (.bin .add (kI 1) (.t 13)),iv 15 0,ia 16 (.call n_spec_l01Below [.t 15,kI 12]),ia 17 (.bin .add (kI 1) (.t 16)),iv 18 0,ia 19 (.call n_spec_l01Below [.t 18,kI 3]),ia 20 (.bld [.c (.i 0),.c (.i 0),.c (.i 0),.c (.i 0),.c (.i 0),.c (.i 0)] [(0,1,.t 5),(1,1,.t 8),(2,1,.t 11),(3,1,.t 14),(4,1,.t 17),(5,1,.t 19)]),ie (.stn 6 (.t 4) (.t 20))]) (.ret))
theorem h_spec_l04Boat : Has Try.prog n_spec_l04Boat 21 c_spec_l04Boat [.cl 4 6] := ⟨by decide, Try.f84, _, Try.func84, rfl, rfl, ⟨none, by kernel_rfl⟩, by kernel_rfl⟩
def c_spec_l01PickInt : SC := .seq (.reg [ia 4 (.mv (kI 0))]) (.seq (.reg [iv 5 1,iv 6 0,iv 7 1,ia 8 (.len (.t 7)),ia 9 (.call n_spec_l01Below [.t 6,.t 8]),ia 10 (.idx 1 (.t 5) (.t 9)),ia 11 (.ld1 (.t 10)),iv 4 11]) (.ret))
theorem h_spec_l01PickInt : Has Try.prog n_spec_l01PickInt 12 c_spec_l01PickInt [.t 4] := ⟨by decide, Try.f85, _, Try.func85, rfl, rfl, ⟨none, by kernel_rfl⟩, by kernel_rfl⟩
def c_spec_TableOk : SC := .seq (.reg [ia 2 (.mv (kB false))]) (.seq (.seq (.reg [ia 3 (.mv (kI 0))]) (.block 0 (.loop (.seq (.seq (.reg [iv 4 3,iv 5 0,ia 6 (.len (.t 5)),ia 7 (.bin .lss (.t 4) (.t 6))]) (.cond (.t 7) (.skip) (.exit 0))) (.seq (.block 1 (.seq (.regq [iv 10 0,iv 11 3,ia 12 (.idx 2 (.t 10) (.t 11)),ia 13 (.fld 0 (.t 12)),ia 14 (.ld1 (.t 13)),ia 15 (.call n_spec_l01In [.t 14,kI 0,kI 1000000000]),ia 16 (.not (.t 15)),iv 17 16,ig 17 false 18 (.mv (.t 0)),ig 17 false 19 (.mv (.t 3)),ig 17 false 20 (.idx 2 (.t 18) (.t 19)),ig 17 false 21 (.fld 1 (.t 20)),ig 17 false 22 (.ld1 (.t 21)),ig 17 false 23 (.call n_spec_l01In [.t 22,kI 0,kI 1000000000]),ig 17 false 24 (.not (.t 23)),ia 25 (.pick (.t 17) (kB true) (.t 24)),iv 26 25,ig 26 false 27 (.mv (.t 3)),ig 26 false 28 (.bin .gtr (.t 27) (kI 0)),ig 26 false 29 (.mv (.t 28)),ig 29 true 30 (.mv (.t 0)),ig 29 true 31 (.mv (.t 3)),ig 29 true 32 (.idx 2 (.t 30) (.t 31)),ig 29 true 33 (.fld 0 (.t 32)),ig 29 true 34 (.ld1 (.t 33)),ig 29 true 35 (.mv (.t 0)),ig 29 true 36 (.mv (.t 3)),ig 29 true 37 (.bin .sub (.t 36) (kI 1)),ig 29 true 38 (.idx 2 (.t 35) (.t 37)),ig 29 true 39 (.fld 0 (.t 38)),ig 29 true 40 (.ld1 (.t 39)),ig 29 true 41 (.bin .leq (.t 34) (.t 40)),ig 29 true 42 (.mv (.t 41)),ig 42 false 43 (.mv (.t 0)),ig 42 false 44 (.mv (.t 3)),ig 42 false 45 (.idx 2 (.t 43) (.t 44)),ig 42 false 46 (.fld 1 (.t 45)),ig 42 false 47 (.ld1 (.t 46)),ig 42 false 48 (.mv (.t 0)),ig 42 false 49 (.mv (.t 3)),ig 42 false 50 (.bin .sub (.t 49) (kI 1)),ig 42 false 51 (.idx 2 (.t 48) (.t 50)),ig 42 false 52 (.fld 1 (.t 51)),ig 42 false 53 (.ld1 (.t 52)),ig 42 false 54 (.bin .lss (.t 47) (.t 53)),ig 29 true 55 (.pick (.t 42) (kB true) (.t 54)),ig 26 false 56 (.pick (.t 29) (.t 55) (kB false)),ia 57 (.pick (.t 26) (kB true) (.t 56))]) (.cond (.t 57) (.seq (.reg [ia 2 (.mv (kB false))]) (.ret)) (.skip)))) (.reg [iv 8 3,ia 9 (.bin .add (.t 8) (kI 1)),iv 3 9])))))) (.seq (.reg [iv 58 0,ia 59 (.len (.t 58)),ia 60 (.call n_spec_l01In [.t 59,kI 2,kI 20]),iv 2 60]) (.ret)))
theorem h_spec_TableOk : Has Try.prog n_spec_TableOk 61 c_spec_TableOk [.t 2] := ⟨by decide, Try.f86, _, Try.func86, rfl, rfl, ⟨none, by kernel_rfl⟩, by kernel_rfl⟩
def c_spec_l02Sum : SC := .seq (.reg [ia 1 (.box 3 (.t 0)),ia 2 (.mv (kI 0))]) (.seq (.reg [ia 5 (.fld 1 (.t 1)),ia 6 (.ld1 (.t 5)),iv 3 6]) (.seq (.seq (.reg [ia 4 (.mv (kI 0))]) (.block 0 (.loop (.seq (.seq (.reg [iv 7 4,ia 8 (.fld 2 (.t 1)),ia 9 (.ld1 (.t 8)),ia 10 (.len (.t 9)),ia 11 (.bin .lss (.t 7) (.t 10))]) (.cond (.t 11) (.skip) (.exit 0))) (.seq (.block 1 (.reg [iv 14 3,ia 15 (.fld 2 (.t 1)),ia 16 (.ld1 (.t 15)),iv 17 4,ia 18 (.idx 1 (.t 16) (.t 17)),ia 19 (.ld1 (.t 18)),ia 20 (.bin .add (.t 14) (.t 19)),iv 3 20])) (.reg [iv 12 4,ia 13 (.bin .add (.t 12) (kI 1)),iv 4 13])))))) (.seq (.reg [iv 21 3,iv 2 21]) (.ret))))
theorem h_spec_l02Sum : Has Try.prog n_spec_l02Sum 22 c_spec_l02Sum [.t 2] := ⟨by decide, Try.f87, _, Try.func87, rfl, rfl, ⟨none, by kernel_rfl⟩, by kernel_rfl⟩
def c_impl_TableOk : SC := .seq (.reg [ia 2 (.mv (kB false))]) (.seq (.seq (.reg [iv 5 0,ia 6 (.len (.t 5)),ia 7 (.bin .lss (.t 6) (kI 2)),iv 8 7,ig 8 false 9 (.mv (.t 0)),ig 8 false 10 (.len (.t 9)),ig 8 false 11 (.bin .gtr (.t 10) (kI 20)),ia 12 (.pick (.t 8) (kB true) (.t 11))]) (.cond (.t 12) (.seq (.reg [ia 2 (.mv (kB false))]) (.ret)) (.skip))) (.seq (.seq (.reg [iv 13 0,ia 14 (.len (.t 13)),ia 15 (.mv (kI 0))]) (.block 0 (.loop (.seq (.reg [ia 16 (.bin .lss (.t 15) (.t 14))]) (.seq (.cond (.t 16) (.skip) (.exit 0)) (.seq (.block 1 (.seq (.reg [iv 17 15,ia 18 (.idx 2 (.t 13) (.t 15)),ia 19 (.ldn 2 (.t 18)),ia 4 (.alloc [.c (.i 0),.c (.i 0)]),iv 3 17,ie (.stn 2 (.t 4) (.t 19))]) (.seq (.seq (.reg [ia 20 (.fld 0 (.t 4)),ia 21 (.ld1 (.t 20)),ia 22 (.call n_impl_inRange [.t 21,kI 0,kI 1000000000]),ia 23 (.not (.t 22)),iv 24 23,ig 24 false 25 (.fld 1 (.t 4)),ig 24 false 26 (.ld1 (.t 25)),ig 24 false 27 (.call n_impl_inRange [.t 26,kI 0,kI 1000000000]),ig 24 false 28 (.not (.t 27)),ia 29 (.pick (.t 24) (kB true) (.t 28))]) (.cond (.t 29) (.seq (.reg [ia 2 (.mv (kB false))]) (.ret)) (.skip))) (.seq (.regq [iv 30 3,ia 31 (.bin .gtr (.t 30) (kI 0)),iv 32 31,ig 32 true 33 (.mv (.t 0)),ig 32 true 34 (.mv (.t 3)),ig 32 true 35 (.bin .sub (.t 34) (kI 1)),ig 32 true 36 (.idx 2 (.t 33) (.t 35)),ig 32 true 37 (.fld 0 (.t 36)),ig 32 true 38 (.ld1 (.t 37)),ig 32 true 39 (.fld 0 (.t 4)),ig 32 true 40 (.ld1 (.t 39)),ig 32 true 41 (.bin .geq (.t 38) (.t 40)),ig 32 true 42 (.mv (.t 41)),ig 42 false 43 (.mv (.t 0)),ig 42 false 44 (.mv (.t 3)),ig 42 false 45 (.bin .sub (.t 44) (kI 1)),ig 42 false 46 (.idx 2 (.t 43) (.t 45)),ig 42 false 47 (.fld 1 (.t 46)),ig 42 false 48 (.ld1 (.t 47)),ig 42 false 49 (.fld 1 (.t 4)),ig 42 false 50 (.ld1 (.t 49)),ig 42 false 51 (.bin .gtr (.t 48) (.t 50)),ig 32 true 52 (.pick (.t 42) (kB true) (.t 51)),ia 53 (.pick (.t 32) (.t 52) (kB false))]) (.cond (.t 53) (.seq (.reg [ia 2 (.mv (kB false))]) (.ret)) (.skip)))))) (.reg [ia 54 (.bin .add (.t 15) (kI 1)),iv 15 54]))))))) (.seq (.reg [ia 2 (.mv (kB true))]) (.ret))))
theorem h_impl_TableOk : Has Try.prog n_impl_TableOk 55 c_impl_TableOk [.t 2] := ⟨by decide, Try.f88, _, Try.func88, rfl, rfl, ⟨none, by kernel_rfl⟩, by kernel_rfl⟩
def c_impl_PlaceOf : SC := .seq (.reg [ia 4 (.mv (kI 0)),ia 5 (.mv (kB false))]) (.seq (.seq (.reg [iv 9 0,ia 10 (.call n_impl_TableOk [.t 9]),ia 11 (.not (.t 10)),iv 12 11,ig 12 false 13 (.mv (.t 0)),ig 12 false 14 (.mv (.t 0)),ig 12 false 15 (.len (.t 14)),ig 12 false 16 (.bin .sub (.t 15) (kI 1)),ig 12 false 17 (.idx 2 (.t 13) (.t 16)),ig 12 false 18 (.fld 1 (.t 17)),ig 12 false 19 (.ld1 (.t 18)),ig 12 false 20 (.mv (.t 1)),ig 12 false 21 (.bin .lss (.t 19) (.t 20)),ia 22 (.pick (.t 12) (kB true) (.t 21))]) (.cond (.t 22) (.seq (.reg [ia 4 (.mv (kI 0)),ia 5 (.mv (kB false))]) (.ret)) (.skip))) (.seq (.regq [iv 23 0,ia 24 (.idx 2 (.t 23) (kI 0)),ia 25 (.fld 0 (.t 24)),ia 26 (.ld1 (.t 25)),iv 27 0,iv 28 0,ia 29 (.len (.t 28)),ia 30 (.bin .sub (.t 29) (kI 1)),ia 31 (.idx 2 (.t 27) (.t 30)),ia 32 (.fld 0 (.t 31)),ia 33 (.ld1 (.t 32)),iv 6 26,iv 7 33]) (.seq (.block 0 (.loop (.seq (.seq (.reg [iv 34 6,iv 35 7,ia 36 (.bin .lss (.t 34) (.t 35))]) (.cond (.t 36) (.skip) (.exit 0))) (.block 1 (.seq (.reg [iv 37 6,iv 38 7,ia 39 (.bin .add (.t 37) (.t 38)),ia 40 (.bin .quo (.t 39) (kI 2)),iv 8 40]) (.seq (.reg [iv 41 0,iv 42 8,ia 43 (.call n_impl_ValueAt [.t 41,.t 42]),iv 44 1,ia 45 (.bin .geq (.t 43) (.t 44))]) (.cond (.t 45) (.reg [iv 46 8,iv 7 46]) (.reg [iv 47 8,ia 48 (.bin .add (.t 47) (kI 1)),iv 6 48])))))))) (.seq (.reg [iv 49 6,iv 4 49,ia 5 (.mv (kB true))]) (.ret)))))
theorem h_impl_PlaceOf : Has Try.prog n_impl_PlaceOf 50 c_impl_PlaceOf [.t 4, .t 5] := ⟨by decide, Try.f89, _, Try.func89, rfl, rfl, ⟨none, by kernel_rfl⟩, by kernel_rfl⟩
def c_spec_BoatOk : SC := .seq (.reg [ia 1 (.box 6 (.t 0)),ia 2 (.mv (kB false))]) (.seq (.reg [ia 3 (.fld 0 (.t 1)),ia 4 (.ld1 (.t 3)),ia 5 (.call n_spec_l01In [.t 4,kI 1,kI 9999]),iv 6 5,ig 6 true 7 (.fld 1 (.t 1)),ig 6 true 8 (.ld1 (.t 7)),ig 6 true 9 (.call n_spec_l01In [.t 8,kI 1,kI 200]),ia 10 (.pick (.t 6) (.t 9) (kB false)),iv 11 10,ig 11 true 12 (.fld 2 (.t 1)),ig 11 true 13 (.ld1 (.t 12)),ig 11 true 14 (.call n_spec_l01In [.t 13,kI 1,kI 30]),ia 15 (.pick (.t 11) (.t 14) (kB false)),iv 16 15,ig 16 true 17 (.fld 3 (.t 1)),ig 16 true 18 (.ld1 (.t 17)),ig 16 true 19 (.call n_spec_l01In [.t 18,kI 1,kI 100]),ia 20 (.pick (.t 16) (.t 19) (kB false)),iv 21 20,ig 21 true 22 (.fld 4 (.t 1)),ig 21 true 23 (.ld1 (.t 22)),ig 21 true 24 (.call n_spec_l01In [.t 23,kI 1,kI 50]),ia 25 (.pick (.t 21) (.t 24) (kB false)),iv 26 25,ig 26 true 27 (.fld 5 (.t 1)),ig 26 true 28 (.ld1 (.t 27)),ig 26 true 29 (.call n_spec_l01In [.t 28,kI 0,kI 2]),ia 30 (.pick (.t 26) (.t 29) (kB false)),iv 2 30]) (.ret))
theorem h_spec_BoatOk : Has Try.prog n_spec_BoatOk 31 c_spec_BoatOk [.t 2] := ⟨by decide, Try.f90, _, Try.func90, rfl, rfl, ⟨none, by kernel_rfl⟩, by kernel_rfl⟩
def c_impl_boatsOf : SC := .seq (.reg [ia 1 (.box 2 (.t 0)),ia 2 (.mv (.k (.nil 6)))]) (.seq (.reg [ia 3 (.mv (.k (.nil 6)))]) (.seq (.seq (.reg [ia 6 (.fld 1 (.t 1)),ia 7 (.ld1 (.t 6)),ia 8 (.len (.t 7)),ia 9 (.mv (kI 0))]) (.block 0 (.loop (.seq (.reg [ia 10 (.bin .lss (.t 9) (.t 8))]) (.seq (.cond (.t 10) (.skip) (.exit 0)) (.seq (.block 1 (.seq (.reg [ia 11 (.idx 1 (.t 7) (.t 9)),ia 12 (.ld1 (.t 11)),iv 5 12]) (.reg [iv 13 3,iv 14 5,ia 15 (.app 6 48 (.t 13) (.t 14)),iv 3 15]))) (.reg [ia 16 (.bin .add (.t 9) (kI 1)),iv 9 16]))))))) (.seq (.reg [iv 17 3,iv 2 17]) (.ret))))
theorem h_impl_boatsOf : Has Try.prog n_impl_boatsOf 18 c_impl_boatsOf [.t 2] := ⟨by decide, Try.f91, _, Try.func91, rfl, rfl, ⟨none, by kernel_rfl⟩, by kernel_rfl⟩
def c_impl_copyRows : SC := .seq (.reg [ia 2 (.mv (.k (.nil 1)))]) (.seq (.reg [ia 3 (.mv (.k (.nil 1)))]) (.seq (.seq (.reg [iv 6 0,ia 7 (.len (.t 6)),ia 8 (.mv (kI 0))]) (.block 0 (.loop (.seq (.reg [ia 9 (.bin .lss (.t 8) (.t 7))]) (.seq (.cond (.t 9) (.skip) (.exit 0)) (.seq (.block 1 (.seq (.reg [ia 10 (.idx 1 (.t 6) (.t 8)),ia 11 (.ld1 (.t 10)),iv 5 11]) (.reg [iv 12 3,iv 13 5,ia 14 (.call n_slices_Clone___impl_Boat_impl_Boat_ [.t 13]),ia 15 (.bsl 1 [.t 14]),ia 16 (.app 1 24 (.t 12) (.t 15)),iv 3 16]))) (.reg [ia 17 (.bin .add (.t 8) (kI 1)),iv 8 17]))))))) (.seq (.reg [iv 18 3,iv 2 18]) (.ret))))
theorem h_impl_copyRows : Has Try.prog n_impl_copyRows 19 c_impl_copyRows [.t 2] := ⟨by decide, Try.f92, _, Try.func92, rfl, rfl, ⟨none, by kernel_rfl⟩, by kernel_rfl⟩
def c_impl_BoatOk : SC := .seq (.reg [ia 1 (.box 6 (.t 0)),ia 2 (.mv (kB false))]) (.seq (.reg [ia 3 (.fld 0 (.t 1)),ia 4 (.ld1 (.t 3)),ia 5 (.call n_impl_inRange [.t 4,kI 1,kI 9999]),iv 6 5,ig 6 true 7 (.fld 1 (.t 1)),ig 6 true 8 (.ld1 (.t 7)),ig 6 true 9 (.call n_impl_inRange [.t 8,kI 1,kI 200]),ia 10 (.pick (.t 6) (.t 9) (kB false)),iv 11 10,ig 11 true 12 (.fld 2 (.t 1)),ig 11 true 13 (.ld1 (.t 12)),ig 11 true 14 (.call n_impl_inRange [.t 13,kI 1,kI 30]),ia 15 (.pick (.t 11) (.t 14) (kB false)),iv 16 15,ig 16 true 17 (.fld 3 (.t 1)),ig 16 true 18 (.ld1 (.t 17)),ig 16 true 19 (.call n_impl_inRange [.t 18,kI 1,kI 100]),ia 20 (.pick (.t 16) (.t 19) (kB false)),iv 21 20,ig 21 true 22 (.fld 4 (.t 1)),ig 21 true 23 (.ld1 (.t 22)),ig 21 true 24 (.call n_impl_inRange [.t 23,kI 1,kI 50]),ia 25 (.pick (.t 21) (.t 24) (kB false)),iv 26 25,ig 26 true 27 (.fld 5 (.t 1)),ig 26 true 28 (.ld1 (.t 27)),ig 26 true 29 (.call n_impl_inRange [.t 28,kI 0,kI 2]),ia 30 (.pick (.t 26) (.t 29) (kB false)),iv 2 30]) (.ret))
theorem h_impl_BoatOk : Has Try.prog n_impl_BoatOk 31 c_impl_BoatOk [.t 2] := ⟨by decide, Try.f93, _, Try.func93, rfl, rfl, ⟨none, by kernel_rfl⟩, by kernel_rfl⟩
def c_slices_Contains___int_int_ : SC := .seq (.reg [ia 4 (.mv (kB false))]) (.seq (.reg [iv 5 0,iv 6 1,ia 7 (.call n_slices_Index___int_int_ [.t 5,.t 6]),ia 8 (.bin .geq (.t 7) (kI 0)),iv 4 8]) (.ret))
theorem h_slices_Contains___int_int_ : Has Try.prog n_slices_Contains___int_int_ 9 c_slices_Contains___int_int_ [.t 4] := ⟨by decide, Try.f94, _, Try.func94, rfl, rfl, ⟨none, by kernel_rfl⟩, by kernel_rfl⟩
def c_spec_l01Byte : SC := .seq (.reg [ia 2 (.mv (kI 0))]) (.seq (.reg [iv 4 0,iv 5 0,ia 6 (.nck (.t 5)),ia 7 (.fld 2 (.t 6)),ia 8 (.ld1 (.t 7)),ia 9 (.binw .mul (.t 8) (kI 6364136223846793005)),ia 10 (.binw .add (.t 9) (kI 1442695040888963407)),ia 11 (.nck (.t 4)),ia 12 (.fld 2 (.t 11)),ie (.st1 (.t 12) (.t 10))]) (.seq (.regq [iv 13 0,ia 14 (.nck (.t 13)),ia 15 (.fld 2 (.t 14)),ia 16 (.ld1 (.t 15)),ia 17 (.bit .shr (.t 16) (kI 33)),iv 18 0,ia 19 (.nck (.t 18)),ia 20 (.fld 2 (.t 19)),ia 21 (.ld1 (.t 20)),ia 22 (.bit .shr (.t 21) (kI 45)),ia 23 (.bit .xor (.t 17) (.t 22)),ia 24 (.bit .and (.t 23) (kI 255)),iv 3 24]) (.seq (.seq (.regq [iv 25 0,ia 26 (.nck (.t 25)),ia 27 (.fld 1 (.t 26)),ia 28 (.ld1 (.t 27)),iv 29 0,ia 30 (.nck (.t 29)),ia 31 (.fld 0 (.t 30)),ia 32 (.ld1 (.t 31)),ia 33 (.len (.t 32)),ia 34 (.bin .lss (.t 28) (.t 33))]) (.cond (.t 34) (.seq (.regq [iv 35 3,iv 36 0,ia 37 (.nck (.t 36)),ia 38 (.fld 0 (.t 37)),ia 39 (.ld1 (.t 38)),iv 40 0,ia 41 (.nck (.t 40)),ia 42 (.fld 1 (.t 41)),ia 43 (.ld1 (.t 42)),ia 44 (.idx 1 (.t 39) (.t 43)),ia 45 (.ld1 (.t 44)),ia 46 (.cvt 0 (.t 45)),ia 47 (.bin .add (.t 35) (.t 46)),ia 48 (.bit .and (.t 47) (kI 255)),iv 3 48]) (.reg [iv 49 0,iv 50 0,ia 51 (.nck (.t 50)),ia 52 (.fld 1 (.t 51)),ia 53 (.ld1 (.t 52)),ia 54 (.bin .add (.t 53) (kI 1)),ia 55 (.nck (.t 49)),ia 56 (.fld 1 (.t 55)),ie (.st1 (.t 56) (.t 54))])) (.skip))) (.seq (.reg [iv 57 3,iv 2 57]) (.ret)))))
theorem h_spec_l01Byte : Has Try.prog n_spec_l01Byte 58 c_spec_l01Byte [.t 2] := ⟨by decide, Try.f106, _, Try.func106, rfl, rfl, ⟨none, by kernel_rfl⟩, by kernel_rfl⟩
def c_impl_ValueAt : SC := .seq (.reg [ia 4 (.mv (kI 0))]) (.seq (.seq (.reg [iv 9 0,ia 10 (.call n_impl_TableOk [.t 9]),ia 11 (.not (.t 10))]) (.cond (.t 11) (.seq (.reg [ia 4 (.mv (kI 0))]) (.ret)) (.skip))) (.seq (.reg [iv 12 0,iv 13 0,ia 14 (.len (.t 13)),ia 15 (.bin .sub (.t 14) (kI 1)),ia 16 (.idx 2 (.t 12) (.t 15)),ia 17 (.ldn 2 (.t 16)),ia 5 (.alloc [.c (.i 0),.c (.i 0)]),ie (.stn 2 (.t 5) (.t 17))]) (.seq (.seq (.reg [iv 18 1,iv 19 0,ia 20 (.idx 2 (.t 19) (kI 0)),ia 21 (.fld 0 (.t 20)),ia 22 (.ld1 (.t 21)),ia 23 (.bin .leq (.t 18) (.t 22))]) (.cond (.t 23) (.seq (.reg [iv 24 0,ia 25 (.idx 2 (.t 24) (kI 0)),ia 26 (.fld 1 (.t 25)),ia 27 (.ld1 (.t 26)),iv 4 27]) (.ret)) (.skip))) (.seq (.seq (.reg [iv 28 1,ia 29 (.fld 0 (.t 5)),ia 30 (.ld1 (.t 29)),ia 31 (.bin .geq (.t 28) (.t 30))]) (.cond (.t 31) (.seq (.reg [ia 32 (.fld 1 (.t 5)),ia 33 (.ld1 (.t 32)),iv 4 33]) (.ret)) (.skip))) (.seq (.reg [ia 6 (.mv (kI 0))]) (.seq (.block 0 (.loop (.seq (.seq (.reg [iv 34 0,iv 35 6,ia 36 (.bin .add (.t 35) (kI 1)),ia 37 (.idx 2 (.t 34) (.t 36)),ia 38 (.fld 0 (.t 37)),ia 39 (.ld1 (.t 38)),iv 40 1,ia 41 (.bin .leq (.t 39) (.t 40))]) (.cond (.t 41) (.skip) (.exit 0))) (.block 1 (.reg [iv 42 6,ia 43 (.bin .add (.t 42) (kI 1)),iv 6 43]))))) (.seq (.rege [⟨0,false,[],iv 44 0⟩,⟨0,false,[],iv 45 6⟩,⟨0,false,[],ia 46 (.idx 2 (.t 44) (.t 45))⟩,⟨0,false,[],ia 47 (.ldn 2 (.t 46))⟩,⟨0,true,[],iv 48 0⟩,⟨0,true,[],iv 49 6⟩,⟨0,true,[],ia 50 (.bin .add (.t 49) (kI 1))⟩,⟨0,true,[],ia 51 (.idx 2 (.t 48) (.t 50))⟩,⟨0,true,[],ia 52 (.ldn 2 (.t 51))⟩,⟨1,false,[],ia 7 (.alloc [.c (.i 0),.c (.i 0)])⟩,⟨1,false,[],ia 8 (.alloc [.c (.i 0),.c (.i 0)])⟩,⟨2,false,[4,5,6,7,8],ie (.stn 2 (.t 7) (.t 47))⟩,⟨2,false,[],ie (.stn 2 (.t 8) (.t 52))⟩]) (.seq (.regq [ia 53 (.fld 1 (.t 7)),ia 54 (.ld1 (.t 53)),iv 55 1,ia 56 (.fld 0 (.t 7)),ia 57 (.ld1 (.t 56)),ia 58 (.bin .sub (.t 55) (.t 57)),ia 59 (.fld 1 (.t 8)),ia 60 (.ld1 (.t 59)),ia 61 (.fld 1 (.t 7)),ia 62 (.ld1 (.t 61)),ia 63 (.bin .sub (.t 60) (.t 62)),ia 64 (.bin .mul (.t 58) (.t 63)),ia 65 (.fld 0 (.t 8)),ia 66 (.ld1 (.t 65)),ia 67 (.fld 0 (.t 7)),ia 68 (.ld1 (.t 67)),ia 69 (.bin .sub (.t 66) (.t 68)),ia 70 (.bin .quo (.t 64) (.t 69)),ia 71 (.bin .add (.t 54) (.t 70)),iv 4 71]) (.ret)))))))))
theorem h_impl_ValueAt : Has Try.prog n_impl_ValueAt 72 c_impl_ValueAt [.t 4] := ⟨by decide, Try.f107, _, Try.func107, rfl, rfl, ⟨none, by kernel_rfl⟩, by kernel_rfl⟩
def c_slices_Clone___impl_Boat_impl_Boat_ : SC := .seq (.reg [ia 2 (.mv (.k (.nil 6)))]) (.seq (.seq (.reg [iv 3 0,ia 4 (.isn (.t 3))]) (.cond (.t 4) (.seq (.reg [ia 2 (.mv (.k (.nil 6)))]) (.ret)) (.skip))) (.seq (.reg [ia 5 (.bsl 6 []),iv 6 0,ia 7 (.app 6 48 (.t 5) (.t 6)),iv 2 7]) (.ret)))
theorem h_slices_Clone___impl_Boat_impl_Boat_ : Has Try.prog n_slices_Clone___impl_Boat_impl_Boat_ 8 c_slices_Clone___impl_Boat_impl_Boat_ [.t 2] := ⟨by decide, Try.f108, _, Try.func108, rfl, rfl, ⟨none, by kernel_rfl⟩, by kernel_rfl⟩
def c_slices_Index___int_int_ : SC := .seq (.reg [ia 4 (.mv (kI 0))]) (.seq (.seq (.reg [iv 6 0,ia 7 (.len (.t 6)),ia 8 (.mv (kI 0))]) (.block 0 (.loop (.seq (.reg [ia 9 (.bin .lss (.t 8) (.t 7))]) (.seq (.cond (.t 9) (.skip) (.exit 0)) (.seq (.block 1 (.seq (.reg [iv 10 8,iv 5 10]) (.seq (.reg [iv 11 1,iv 12 0,iv 13 5,ia 14 (.idx 1 (.t 12) (.t 13)),ia 15 (.ld1 (.t 14)),ia 16 (.bin .eql (.t 11) (.t 15))]) (.cond (.t 16) (.seq (.reg [iv 17 5,iv 4 17]) (.ret)) (.skip))))) (.reg [ia 18 (.bin .add (.t 8) (kI 1)),iv 8 18]))))))) (.seq (.reg [ia 4 (.mv (kI (-1)))]) (.ret)))
theorem h_slices_Index___int_int_ : Has Try.prog n_slices_Index___int_int_ 19 c_slices_Index___int_int_ [.t 4] := ⟨by decide, Try.f109, _, Try.func109, rfl, rfl, ⟨none, by kernel_rfl⟩, by kernel_rfl⟩
def inRange (n a b : Int) : Bool := decide (a ≤ n) && decide (n ≤ b)
theorem inRange_impl (n a b : Int) : PureF Try.prog n_impl_inRange [.c (.i n), .c (.i a), .c (.i b)] (.c (.b (inRange n a b))) := by
  refine pure_of h_impl_inRange (by simp) fun hwf => ?_
  simp -dsimp -implicitDefEqProofs [c_impl_inRange, inRange]
  exact ⟨fun h => by simp [h], fun h => by simp [Int.not_le.2 h]⟩
theorem inRange_spec (n a b : Int) : PureF Try.prog n_spec_l01In [.c (.i n), .c (.i a), .c (.i b)] (.c (.b (inRange n a b))) := by
  refine pure_of h_spec_l01In (by simp) fun hwf => ?_
  simp -dsimp -implicitDefEqProofs [c_spec_l01In, inRange]
  exact ⟨fun h => by simp [h], fun h => by simp [Int.not_le.2 h]⟩
structure Entry where
  From : Int
  To : Int
  Amount : Int
  Time : Int
  Why : Int
  deriving Inhabited, DecidableEq
@[simp] def Entry.enc (e : Entry) : List C := [.i e.From, .i e.To, .i e.Amount, .i e.Time, .i e.Why]
theorem all_take_succ {α : Type} {p : α → Bool} {l : List α} {k : Nat} {e : α} (he : l[k]? = some e) (h : ∀ x ∈ l.take k, p x = true) (hp : p e = true) : ∀ x ∈ l.take (k + 1), p x = true := by
  intro x hx
  rw [List.take_succ_eq_append_getElem (List.getElem?_eq_some_iff.1 he).1] at hx
  rcases List.mem_append.1 hx with h1 | h1
  · exact h x h1
  · rw [List.mem_singleton] at h1
    have := (List.getElem?_eq_some_iff.1 he).2
    rw [h1, this]; exact hp
theorem all_of_take {α : Type} {p : α → Bool} {l : List α} {k : Nat} (hk : l.length ≤ k) (h : ∀ x ∈ l.take k, p x = true) : l.all p = true := by
  rw [List.take_of_length_le hk] at h
  exact List.all_eq_true.2 h
theorem all_false {α : Type} {p : α → Bool} {l : List α} {k : Nat} {e : α} (he : l[k]? = some e) (hp : p e = false) : l.all p = false := by
  rw [List.all_eq_false]
  exact ⟨e, List.mem_of_getElem? he, by simp [hp]⟩
theorem lt_t {k n : Nat} (h : k < n) : ((k : Int) < (n : Int)) = True := by simp [h]
theorem lt_f {k n : Nat} (h : n ≤ k) : ((k : Int) < (n : Int)) = False := by simp [h]
structure Way where
  Long : Int
  Bed : Int
  deriving DecidableEq, Inhabited
@[simp] def Way.enc (e : Way) : List C := [.i e.Long, .i e.Bed]
def WayOk (e : Way) : Bool := inRange e.Long 1 10000 && inRange e.Bed 0 100000
theorem WayOk_impl (e : Way) : PureF Try.prog n_impl_WayOk [.agg (e.enc.map .c)] (.c (.b (WayOk e))) := by
  refine pure_of h_impl_WayOk (by simp) fun hwf => ?_
  simp -dsimp -implicitDefEqProofs [c_impl_WayOk]
  refine call_lend (inRange_impl e.Long 1 10000) (by simp) rfl ?_
  simp -dsimp -implicitDefEqProofs
  refine ⟨fun h => ?_, fun h => by simp [WayOk, h]⟩
  refine call_lend (inRange_impl e.Bed 0 100000) (by simp) rfl ?_
  simp -dsimp -implicitDefEqProofs
  simp [WayOk, h]
theorem inI_succ {k n : Nat} (hk : k < n) (h : n ≤ maxLen) : inI ((k : Int) + 1) := by unfold maxLen at h; unfold inI; omega
abbrev ienc (n : Int) : List C := [.i n]
structure Tariff where
  Base : Int
  PerArea : Int
  PerClass : List Int
  Weights : List Int
  deriving DecidableEq
@[simp] def Tariff.enc (t : Tariff) : List C := [.i t.Base, .i t.PerArea, .sl 1 (t.PerClass.map ienc), .sl 1 (t.Weights.map ienc)]
def Tariff.small (t : Tariff) : Prop := t.PerClass.length ≤ 1048576 ∧ t.Weights.length ≤ 1048576
theorem sum_take {l : List Int} {k : Nat} {x : Int} (h : l[k]? = some x) : (l.take (k + 1)).sum = (l.take k).sum + x := by
  rw [List.take_succ, h]; simp
def sumTo (l : List Int) (k : Nat) : Int := (l.take k).sum
theorem sumTo_zero {l : List Int} : sumTo l 0 = 0 := rfl
theorem sumTo_succ {l : List Int} {k : Nat} {x : Int} (h : l[k]? = some x) : sumTo l (k + 1) = sumTo l k + x := sum_take h
theorem sumTo_all {l : List Int} {k : Nat} (h : l.length ≤ k) : sumTo l k = l.sum := by unfold sumTo; rw [List.take_of_length_le h]
theorem inRange_iff {n a b : Int} : inRange n a b = true ↔ a ≤ n ∧ n ≤ b := by simp [inRange]
theorem inRange_not {n a b : Int} : inRange n a b = false ↔ n < a ∨ b < n := by
  simp only [inRange, Bool.and_eq_false_iff, decide_eq_false_iff_not]; omega
theorem sum_bound : ∀ {l : List Int} {b : Int}, (∀ x ∈ l, inRange x 0 b = true) → 0 ≤ l.sum ∧ l.sum ≤ b * l.length
  | [], b, _ => by simp
  | x :: l, b, h => by
    have h1 := sum_bound (l := l) (b := b) fun y hy => h y (by simp [hy])
    have h2 := inRange_iff.1 (h x (by simp))
    simp only [List.sum_cons, List.length_cons, Int.natCast_add, Int.natCast_one, Int.mul_add, Int.mul_one]
    omega
def smallS {α : Type} (sm : α → Prop) (xs : List α) : Prop := xs.length ≤ 1048576 ∧ ∀ x ∈ xs, sm x
structure Boat where
  Id : Int
  Length : Int
  Width : Int
  Draught : Int
  Speed : Int
  Class : Int
  deriving DecidableEq, Inhabited
@[simp] def Boat.enc (e : Boat) : List C := [.i e.Id, .i e.Length, .i e.Width, .i e.Draught, .i e.Speed, .i e.Class]
-- Boat
def small_BoatS : List Boat → Prop := smallS fun _ => True
abbrev enc_BoatS (xs : List Boat) : List C := [.sl 6 (xs.map Boat.enc)]
-- [][]Boat
def small_BoatSS : List (List Boat) → Prop := smallS small_BoatS
structure Train where
  Up : Bool
  Rows : List (List Boat)
  deriving DecidableEq, Inhabited
@[simp] def Train.enc (e : Train) : List C := [.b e.Up, .sl 1 (e.Rows.map enc_BoatS)]
-- Train
def Train.small (e : Train) : Prop := small_BoatSS e.Rows
structure Mover where
  Train : Train
  Place : Int
  deriving DecidableEq, Inhabited
@[simp] def Mover.enc (e : Mover) : List C := [.b e.Train.Up, .sl 1 (e.Train.Rows.map enc_BoatS), .i e.Place]
-- Mover
def Mover.small (e : Mover) : Prop := e.Train.small
theorem flat_len {α : Type} {B : Nat} : ∀ {l : List (List α)}, (∀ r ∈ l, r.length ≤ B) → l.flatten.length ≤ l.length * B
  | [], _ => by simp
  | r :: l, h => by
    have h1 := flat_len (l := l) fun x hx => h x (by simp [hx])
    have h2 := h r (by simp)
    simp only [List.flatten_cons, List.length_append, List.length_cons, Nat.add_mul, Nat.one_mul]
    omega
/-- The elements of the first k. -/
def heads {α : Type} (l : List (List α)) (k : Nat) : List α := (l.take k).flatten
theorem heads_zero {α : Type} {l : List (List α)} : heads l 0 = [] := rfl
theorem heads_succ {α : Type} {l : List (List α)} {k : Nat} {r : List α} (h : l[k]? = some r) : heads l (k + 1) = heads l k ++ r := by
  unfold heads; rw [List.take_succ, h]; simp
theorem heads_all {α : Type} {l : List (List α)} {k : Nat} (h : l.length ≤ k) : heads l k = l.flatten := by
  unfold heads; rw [List.take_of_length_le h]
theorem heads_bound {α : Type} {l : List (List α)} (h : smallS (smallS fun _ : α => True) l) (k : Nat) : (heads l k).length ≤ 1099511627776 := by
  have h1 := flat_len (l := l.take k) (B := 1048576) fun r hr => (h.2 r (List.mem_of_mem_take hr)).1
  have h2 := h.1
  have h3 : (l.take k).length ≤ 1048576 := by simp; omega
  have h4 := Nat.mul_le_mul_right 1048576 h3
  unfold heads
  omega
def Train.boats (t : Train) : List Boat := t.Rows.flatten
theorem boats_le {t : Train} (h : t.small) : t.boats.length ≤ 1099511627776 := by
  have := heads_bound h t.Rows.length
  rwa [heads_all (Nat.le_refl _)] at this
theorem l04Boats_c (t : Train) (h : t.small) : PureF Try.prog n_spec_l04Boats [.agg (t.enc.map .c)] (.c (.sl 6 (t.boats.map Boat.enc))) := by
  refine pure_of h_spec_l04Boats (by simp) fun hwf => ?_
  simp -dsimp -implicitDefEqProofs [c_spec_l04Boats]
  refine loop_rule (ι := Nat) (fun k => k ≤ t.Rows.length) (fun k => stOf [(1, .box 1 0), (3, .own 5 6 (heads t.Rows k).length), (4, .c (.i k))] [(1, .box (t.enc.map .c)), (5, .row 6 ((heads t.Rows k).map Boat.enc))]) (fun k => t.Rows.length - k) 0 (by simp) (by apply le_of <;> simp [AV.refs1, AV.ref0, Obj.refs1, heads_zero]) ?_
  rintro k hk
  rcases Nat.lt_or_ge k t.Rows.length with hlt | hge
  · obtain ⟨r, hr⟩ : ∃ r, t.Rows[k]? = some r := ⟨_, List.getElem?_eq_getElem hlt⟩
    have hb := heads_bound h (k + 1)
    have hf := heads_succ hr
    rw [hf, List.length_append] at hb
    have hm := h.1
    simp -dsimp -implicitDefEqProofs [hr, lt_t hlt]
    intro hlen
    refine ⟨by omega, inI_succ hlt hlen, k + 1, hlt, by omega, ?_⟩
    apply le_of <;> simp [AV.refs1, AV.ref0, Obj.refs1, hf]
  · simp -dsimp -implicitDefEqProofs [lt_f hge]
    rw [heads_all hge]
    intro _
    rw [List.take_of_length_le (by rw [List.length_map]; exact Nat.le_refl _)]; rfl
def BoatOk (b : Boat) : Bool := inRange b.Id 1 9999 && inRange b.Length 1 200 && inRange b.Width 1 30 && inRange b.Draught 1 100 && inRange b.Speed 1 50 && inRange b.Class 0 2
theorem BoatOk_spec (b : Boat) : PureF Try.prog n_spec_BoatOk [.agg (b.enc.map .c)] (.c (.b (BoatOk b))) := by
  refine pure_of h_spec_BoatOk (by simp) fun hwf => ?_
  simp -dsimp -implicitDefEqProofs [c_spec_BoatOk]
  refine call_lend (inRange_spec b.Id 1 9999) (by simp) rfl ?_
  simp -dsimp -implicitDefEqProofs
  refine ⟨fun h => ?_, fun h => by simp [BoatOk, h]⟩
  refine call_lend (inRange_spec b.Length 1 200) (by simp) rfl ?_
  simp -dsimp -implicitDefEqProofs
  refine ⟨fun h1 => ?_, fun h1 => by simp [BoatOk, h1]⟩
  refine call_lend (inRange_spec b.Width 1 30) (by simp) rfl ?_
  simp -dsimp -implicitDefEqProofs
  refine ⟨fun h2 => ?_, fun h1 => by simp [BoatOk, h1]⟩
  refine call_lend (inRange_spec b.Draught 1 100) (by simp) rfl ?_
  simp -dsimp -implicitDefEqProofs
  refine ⟨fun h3 => ?_, fun h1 => by simp [BoatOk, h1]⟩
  refine call_lend (inRange_spec b.Speed 1 50) (by simp) rfl ?_
  simp -dsimp -implicitDefEqProofs
  refine ⟨fun h4 => ?_, fun h1 => by simp [BoatOk, h1]⟩
  refine call_lend (inRange_spec b.Class 0 2) (by simp) rfl ?_
  simp -dsimp -implicitDefEqProofs
  simp [BoatOk, h, h1, h2, h3, h4]
theorem BoatOk_impl (b : Boat) : PureF Try.prog n_impl_BoatOk [.agg (b.enc.map .c)] (.c (.b (BoatOk b))) := by
  refine pure_of h_impl_BoatOk (by simp) fun hwf => ?_
  simp -dsimp -implicitDefEqProofs [c_impl_BoatOk]
  refine call_lend (inRange_impl b.Id 1 9999) (by simp) rfl ?_
  simp -dsimp -implicitDefEqProofs
  refine ⟨fun h => ?_, fun h => by simp [BoatOk, h]⟩
  refine call_lend (inRange_impl b.Length 1 200) (by simp) rfl ?_
  simp -dsimp -implicitDefEqProofs
  refine ⟨fun h1 => ?_, fun h1 => by simp [BoatOk, h1]⟩
  refine call_lend (inRange_impl b.Width 1 30) (by simp) rfl ?_
  simp -dsimp -implicitDefEqProofs
  refine ⟨fun h2 => ?_, fun h1 => by simp [BoatOk, h1]⟩
  refine call_lend (inRange_impl b.Draught 1 100) (by simp) rfl ?_
  simp -dsimp -implicitDefEqProofs
  refine ⟨fun h3 => ?_, fun h1 => by simp [BoatOk, h1]⟩
  refine call_lend (inRange_impl b.Speed 1 50) (by simp) rfl ?_
  simp -dsimp -implicitDefEqProofs
  refine ⟨fun h4 => ?_, fun h1 => by simp [BoatOk, h1]⟩
  refine call_lend (inRange_impl b.Class 0 2) (by simp) rfl ?_
  simp -dsimp -implicitDefEqProofs
  simp [BoatOk, h, h1, h2, h3, h4]
/-- Place of n in a list, or -1. -/
def indexOf (l : List Int) (n : Int) : Int := match l.findIdx? (fun x => n == x) with | some i => i | none => -1
theorem indexOf_nonneg {l : List Int} {n : Int} : (0 ≤ indexOf l n) = (n ∈ l) := by
  unfold indexOf
  cases h : l.findIdx? (fun x => n == x) with
  | none =>
    rw [List.findIdx?_eq_none_iff] at h
    show (0 ≤ (-1 : Int)) = _
    simp only [eq_iff_iff]
    refine ⟨fun h1 => by omega, fun hm => ?_⟩
    have := h n hm
    simp at this
  | some i =>
    rw [List.findIdx?_eq_some_iff_getElem] at h
    obtain ⟨hi, h1, _⟩ := h
    simp only [eq_iff_iff]
    refine ⟨fun _ => ?_, fun _ => by omega⟩
    have : n = l[i] := by simpa using h1
    rw [this]; exact List.getElem_mem _
theorem indexOf_at {l : List Int} {n : Int} {k : Nat} (h : l[k]? = some n) (hn : ∀ x ∈ l.take k, n ≠ x) : indexOf l n = k := by
  unfold indexOf
  have : l.findIdx? (fun x => n == x) = some k := by
    rw [List.findIdx?_eq_some_iff_getElem]
    obtain ⟨hk1, hk2⟩ := List.getElem?_eq_some_iff.1 h
    refine ⟨hk1, by simp [hk2], fun j hj => ?_⟩
    have := hn (l[j]'(by omega)) (List.mem_take_iff_getElem.2 ⟨j, by omega, rfl⟩)
    simpa using this
  rw [this]
theorem indexOf_no {l : List Int} {n : Int} {k : Nat} (hk : l.length ≤ k) (hn : ∀ x ∈ l.take k, n ≠ x) : indexOf l n = -1 := by
  rw [List.take_of_length_le hk] at hn
  unfold indexOf
  have : l.findIdx? (fun x => n == x) = none := by
    rw [List.findIdx?_eq_none_iff]
    intro x hx
    simpa using hn x hx
  rw [this]
theorem takes_ne {l : List Int} {n x : Int} {k : Nat} (h : l[k]? = some x) (hx : n ≠ x) (hn : ∀ x ∈ l.take k, n ≠ x) : ∀ x ∈ l.take (k + 1), n ≠ x := by
  intro y hy
  rw [List.take_succ, h] at hy
  rcases List.mem_append.1 hy with h1 | h1
  · exact hn y h1
  · simp at h1; rw [h1]; exact hx
theorem Index_c (l : List Int) (n : Int) : PureF Try.prog n_slices_Index___int_int_ [.c (.sl 1 (l.map ienc)), .c (.i n)] (.c (.i (indexOf l n))) := by
  refine pure_of h_slices_Index___int_int_ (by simp) fun hwf => ?_
  simp -dsimp -implicitDefEqProofs [c_slices_Index___int_int_]
  intro hlen
  refine loop_rule (ι := Nat) (fun k => k ≤ l.length ∧ ∀ x ∈ l.take k, n ≠ x) (fun k => stOf [(0, .c (.sl 1 (l.map ienc))), (1, .c (.i n)), (7, .c (.i l.length)), (8, .c (.i k))] []) (fun k => l.length - k) 0 (by simp) (by apply le_of <;> simp [AV.refs1, AV.ref0, Obj.refs1]) ?_
  rintro k ⟨hk, hn⟩
  rcases Nat.lt_or_ge k l.length with hlt | hge
  · obtain ⟨x, hx⟩ : ∃ x, l[k]? = some x := ⟨_, List.getElem?_eq_getElem hlt⟩
    simp -dsimp -implicitDefEqProofs [hx, lt_t hlt]
    refine ⟨fun h => ?_, fun h => ⟨inI_succ hlt hlen, k + 1, ⟨hlt, takes_ne hx h hn⟩, by omega, by apply le_of <;> simp [AV.refs1, AV.ref0, Obj.refs1]⟩⟩
    exact indexOf_at (h ▸ hx) hn
  · simp -dsimp -implicitDefEqProofs [lt_f hge]
    exact indexOf_no hge hn
theorem Contains_c (l : List Int) (n : Int) : PureF Try.prog n_slices_Contains___int_int_ [.c (.sl 1 (l.map ienc)), .c (.i n)] (.c (.b (decide (n ∈ l)))) := by
  refine pure_of h_slices_Contains___int_int_ (by simp) fun hwf => ?_
  simp -dsimp -implicitDefEqProofs [c_slices_Contains___int_int_]
  refine call_lend (Index_c l n) (by simp) rfl ?_
  simp -dsimp -implicitDefEqProofs [indexOf_nonneg]
def idOf (b : Boat) : Int := b.Id
def full (r : List Boat) : Bool := decide (r.length ≠ 0)
theorem full_iff {r : List Boat} : full r = true ↔ r.length ≠ 0 := by simp [full]
def TrainOk (t : Train) : Bool := t.Rows.all full && t.boats.all BoatOk && decide ((t.boats.map idOf).Nodup) && inRange t.boats.length 1 6
theorem nodup_take {l : List Boat} {k : Nat} {b : Boat} (h : l[k]? = some b) : (((l.take (k + 1)).map idOf).Nodup ↔ ((l.take k).map idOf).Nodup ∧ b.Id ∉ (l.take k).map idOf) := by
  rw [List.take_succ, h, List.map_append]
  simp only [Option.toList_some, List.map_cons, List.map_nil, List.nodup_append, List.nodup_cons, List.not_mem_nil, not_false_eq_true, List.nodup_nil, and_self, true_and, List.mem_singleton, forall_eq, idOf]
  constructor
  · rintro ⟨h1, h2⟩; exact ⟨h1, fun hm => h2 _ hm rfl⟩
  · rintro ⟨h1, h2⟩; exact ⟨h1, fun x hx e => h2 (e ▸ hx)⟩
theorem not_nodup {l : List Boat} {k : Nat} (h : ¬ ((l.take k).map idOf).Nodup) : ¬ (l.map idOf).Nodup := by
  intro hn
  refine h ?_
  rw [← List.take_append_drop k l, List.map_append] at hn
  exact (List.nodup_append.1 hn).1
def idsTo (l : List Boat) (k : Nat) : List Int := (l.take k).map idOf
theorem TrainOk_spec (t : Train) (h : t.small) : PureF Try.prog n_spec_TrainOk [.agg (t.enc.map .c)] (.c (.b (TrainOk t))) := by
  refine pure_of h_spec_TrainOk (by simp) fun hwf => ?_
  simp -dsimp -implicitDefEqProofs [c_spec_TrainOk]
  refine call_pure (l04Boats_c t h) (by simp) rfl ?_
  simp -dsimp -implicitDefEqProofs
  refine loop_rule (ι := Nat) (fun k => k ≤ t.Rows.length ∧ ∀ r ∈ t.Rows.take k, full r = true) (fun k => stOf [(1, .box 1 0), (3, .c (.sl 6 (t.boats.map Boat.enc))), (4, .c (.i k))] [(1, .box (t.enc.map .c))]) (fun k => t.Rows.length - k) 0 (by simp) (by apply le_of <;> simp [AV.refs1, AV.ref0, Obj.refs1]) ?_
  rintro k ⟨hk, hall⟩
  rcases Nat.lt_or_ge k t.Rows.length with hlt | hge
  · obtain ⟨r, hr⟩ : ∃ r, t.Rows[k]? = some r := ⟨_, List.getElem?_eq_getElem hlt⟩
    simp -dsimp -implicitDefEqProofs [hr, lt_t hlt]
    intro hlen _
    refine ⟨fun h0 => ?_, fun h0 => ?_⟩
    · have : t.Rows.all full = false := all_false (p := full) hr (by simp [full, h0])
      simp only [TrainOk, this, Bool.false_and]
    · exact ⟨inI_succ hlt hlen, k + 1, ⟨by omega, all_take_succ (p := full) hr hall (by simp [full, h0])⟩, by omega, by apply le_of <;> simp [AV.refs1, AV.ref0, Obj.refs1]⟩
  · have hrows := all_of_take (p := full) hge hall
    simp -dsimp -implicitDefEqProofs [lt_f hge]
    intro _
    have hbl := boats_le h
    refine loop_rule (ι := Nat) (fun k => k ≤ t.boats.length ∧ (∀ b ∈ t.boats.take k, BoatOk b = true) ∧ (idsTo t.boats k).Nodup) (fun k => stOf [(3, .c (.sl 6 (t.boats.map Boat.enc))), (5, .c (.i k))] []) (fun k => t.boats.length - k) 0 (by simp [idsTo]) (by apply le_of <;> simp [AV.refs1, AV.ref0, Obj.refs1]) ?_
    rintro k ⟨hk, hok, hnd⟩
    have fin : t.boats.length ≤ 6 → k = t.boats.length → TrainOk t = inRange t.boats.length 1 6 := by
      intro h6 e
      have h1 := all_of_take (p := BoatOk) (by omega) hok
      rw [e, idsTo, List.take_length] at hnd
      simp [TrainOk, hrows, h1, hnd]
    rcases Nat.lt_or_ge k t.boats.length with hlt | hge
    · obtain ⟨b, hb⟩ : ∃ b, t.boats[k]? = some b := ⟨_, List.getElem?_eq_getElem hlt⟩
      by_cases h6 : t.boats.length ≤ 6
      · have h6' : ((t.boats.length : Int) ≤ 6) = True := by simp; omega
        simp -dsimp -implicitDefEqProofs [hb, lt_t hlt, h6']
        intro hlen
        refine call_lend (BoatOk_spec b) (by simp) rfl ?_
        simp -dsimp -implicitDefEqProofs
        refine ⟨fun h1 => ?_, fun h1 => ?_⟩
        · have : t.boats.all BoatOk = false := all_false (p := BoatOk) hb h1
          simp only [TrainOk, this, Bool.false_and, Bool.and_false]
        have hok' := all_take_succ (p := BoatOk) hb hok h1
        refine loop_rule (ι := Nat) (fun i => i ≤ k ∧ b.Id ∉ idsTo t.boats i) (fun i => stOf [(3, .c (.sl 6 (t.boats.map Boat.enc))), (5, .c (.i k)), (6, .c (.i i))] []) (fun i => k - i) 0 (by simp [idsTo]) (by apply le_of <;> simp [AV.refs1, AV.ref0, Obj.refs1]) ?_
        rintro i ⟨hi, hni⟩
        rcases Nat.lt_or_ge i k with hlt2 | hge2
        · obtain ⟨c, hc⟩ : ∃ c, t.boats[i]? = some c := ⟨_, List.getElem?_eq_getElem (by omega)⟩
          have hi3 : (i : Int) < t.boats.length := by omega
          simp -dsimp -implicitDefEqProofs [hb, hc, lt_t hlt, lt_t hlt2, hi3]
          refine ⟨fun h2 => ?_, fun h2 => ?_⟩
          · have : ¬ (t.boats.map idOf).Nodup := by
              refine not_nodup (k := k + 1) fun hn => ?_
              refine ((nodup_take hb).1 hn).2 ?_
              rw [← h2]
              exact List.mem_map.2 ⟨c, List.mem_iff_getElem?.2 ⟨i, by rw [List.getElem?_take, if_pos hlt2]; exact hc⟩, rfl⟩
            simp [TrainOk, this]
          · refine ⟨by unfold inI; omega, i + 1, ⟨hlt2, ?_⟩, by omega, by apply le_of <;> simp [AV.refs1, AV.ref0, Obj.refs1]⟩
            rw [idsTo, List.take_succ, hc, List.map_append]
            simp only [List.mem_append, Option.toList_some, List.map_cons, List.map_nil, List.mem_singleton, idOf]
            rintro (h3 | h3)
            · exact hni h3
            · exact h2 h3.symm
        · simp -dsimp -implicitDefEqProofs [lt_f hge2]
          have e : i = k := by omega
          rw [e] at hni
          exact ⟨by unfold inI; omega, k + 1, ⟨hlt, hok', (nodup_take hb).2 ⟨hnd, hni⟩⟩, by omega, by apply le_of <;> simp [AV.refs1, AV.ref0, Obj.refs1]⟩
      · have h6' : ((t.boats.length : Int) ≤ 6) = False := by simp; omega
        simp -dsimp -implicitDefEqProofs [hb, lt_t hlt, h6']
        intro hlen
        refine call_lend (inRange_spec t.boats.length 1 6) (by simp) rfl ?_
        simp -dsimp -implicitDefEqProofs
        have h7 : inRange t.boats.length 1 6 = false := inRange_not.2 (by omega)
        simp only [TrainOk, h7, Bool.and_false]
    · simp -dsimp -implicitDefEqProofs [lt_f hge]
      intro hlen
      refine call_lend (inRange_spec t.boats.length 1 6) (by simp) rfl ?_
      simp -dsimp -implicitDefEqProofs
      by_cases h6 : t.boats.length ≤ 6
      · rw [fin h6 (by omega)]
      · have h7 : inRange t.boats.length 1 6 = false := inRange_not.2 (by omega)
        simp only [TrainOk, h7, Bool.and_false]
theorem boats_split {t : Train} {k : Nat} {r : List Boat} (h : t.Rows[k]? = some r) : ∃ m, t.boats = heads t.Rows k ++ r ++ m := by
  refine ⟨(t.Rows.drop (k + 1)).flatten, ?_⟩
  unfold Train.boats
  conv => lhs; rw [← List.take_append_drop (k + 1) t.Rows]
  rw [List.flatten_append, ← heads_succ h]; rfl
theorem tf_full {t : Train} {k : Nat} {r : List Boat} (h : t.Rows[k]? = some r) (h0 : r.length = 0) : TrainOk t = false := by
  have : t.Rows.all full = false := all_false (p := full) h (by simp [full, h0])
  simp only [TrainOk, this, Bool.false_and]
theorem tf_len {t : Train} (h : 6 < t.boats.length) : TrainOk t = false := by
  have h7 : inRange t.boats.length 1 6 = false := inRange_not.2 (by omega)
  simp only [TrainOk, h7, Bool.and_false]
theorem tf_boat {t : Train} {b : Boat} (hb : b ∈ t.boats) (h : BoatOk b = false) : TrainOk t = false := by
  obtain ⟨i, hi⟩ := List.getElem?_of_mem hb
  have : t.boats.all BoatOk = false := all_false (p := BoatOk) hi h
  simp only [TrainOk, this, Bool.false_and, Bool.and_false]
theorem tf_ids {t : Train} (h : ¬ (t.boats.map idOf).Nodup) : TrainOk t = false := by simp [TrainOk, h]
/-- The array of the Ids that were met. -/
def seenOf (l : List Boat) : List (List C) := (l.map idOf).map ienc ++ List.replicate (6 - l.length) [.i 0]
theorem seen_len {l : List Boat} (h : l.length ≤ 6) : (seenOf l).length = 6 := by simp [seenOf]; omega
theorem seen_take {l : List Boat} {n : Nat} (h : n = l.length) : (seenOf l).take n = (l.map idOf).map ienc := by
  subst h; unfold seenOf; rw [List.take_append_of_le_length (by simp), List.take_of_length_le (by simp)]
theorem seen_set {l : List Boat} {b : Boat} (h : l.length < 6) : (seenOf l).set l.length [.i b.Id] = seenOf (l ++ [b]) := by
  unfold seenOf
  rw [List.set_append_right _ _ (by simp)]
  have h1 : ((l.map idOf).map ienc).length = l.length := by simp
  rw [h1, Nat.sub_self, show 6 - l.length = (6 - (l.length + 1)) + 1 by omega, List.replicate_succ, List.set_cons_zero]
  simp [idOf]
theorem seen_get {l : List Boat} (h : l.length < 6) : (seenOf l)[l.length]?.getD [] = [.i 0] := by
  unfold seenOf
  rw [List.getElem?_append_right (by simp)]
  have h1 : ((l.map idOf).map ienc).length = l.length := by simp
  rw [h1, Nat.sub_self, List.getElem?_replicate, if_pos (by omega)]; rfl
theorem seen_nil : seenOf [] = List.replicate 6 [.i 0] := rfl
/-- What holds of the boats met so far. -/
structure Met (l : List Boat) : Prop where
  ok : ∀ b ∈ l, BoatOk b = true
  nd : (l.map idOf).Nodup
  len : l.length ≤ 6
theorem Met.snoc {l : List Boat} {b : Boat} (h : Met l) (h1 : BoatOk b = true) (h2 : b.Id ∉ l.map idOf) (h3 : l.length < 6) : Met (l ++ [b]) := by
  refine ⟨?_, ?_, by simp; omega⟩
  · intro x hx
    rcases List.mem_append.1 hx with hx | hx
    · exact h.ok x hx
    · rw [List.mem_singleton.1 hx]; exact h1
  · have := @nodup_take (l ++ [b]) l.length b (by simp)
    rw [show l.length + 1 = (l ++ [b]).length by simp, List.take_length] at this
    rw [this, List.take_left']
    · exact ⟨h.nd, h2⟩
    · rfl
def soFar (t : Train) (k : Nat) (r : List Boat) (j : Nat) : List Boat := heads t.Rows k ++ r.take j
theorem soFar_zero {t : Train} {k : Nat} {r : List Boat} : soFar t k r 0 = heads t.Rows k := by simp [soFar]
theorem soFar_succ {t : Train} {k : Nat} {r : List Boat} {j : Nat} {b : Boat} (h : r[j]? = some b) : soFar t k r (j + 1) = soFar t k r j ++ [b] := by
  unfold soFar; rw [List.take_succ, h]; simp
theorem soFar_all {t : Train} {k : Nat} {r : List Boat} {j : Nat} (hr : t.Rows[k]? = some r) (h : r.length ≤ j) : soFar t k r j = heads t.Rows (k + 1) := by
  unfold soFar; rw [List.take_of_length_le h, heads_succ hr]
theorem soFar_len {t : Train} {k : Nat} {r : List Boat} {j : Nat} (h : j ≤ r.length) : (soFar t k r j).length = (heads t.Rows k).length + j := by
  unfold soFar; simp; omega
theorem TrainOk_impl (t : Train) (h : t.small) : PureF Try.prog n_impl_TrainOk [.agg (t.enc.map .c)] (.c (.b (TrainOk t))) := by
  refine pure_of h_impl_TrainOk (by simp) fun hwf => ?_
  simp -dsimp -implicitDefEqProofs [c_impl_TrainOk]
  intro hlen
  refine ⟨fun h0 _ => ⟨fun h1 => ?_, fun h1 _ => ?_⟩, fun h0 => ?_⟩
  · by_cases h2 : TrainOk t = false
    · exact h2
    · exfalso
      have h3 : TrainOk t = true := by simpa using h2
      simp only [TrainOk, Bool.and_eq_true, List.all_eq_true] at h3
      obtain ⟨⟨⟨h4, _⟩, _⟩, h5⟩ := h3
      have h6 := inRange_iff.1 h5
      have : ∀ l : List (List Boat), (∀ r ∈ l, full r = true) → l.length ≤ l.flatten.length := by
        intro l
        induction l with
        | nil => simp
        | cons r l ih =>
          intro hl
          have e1 := ih fun x hx => hl x (by simp [hx])
          have e2 := full_iff.1 (hl r (by simp))
          simp only [List.length_cons, List.flatten_cons, List.length_append]; omega
      have := this t.Rows h4
      unfold Train.boats at h6
      omega
  · refine loop_rule (ι := Nat) (fun k => k ≤ t.Rows.length ∧ (∀ r ∈ t.Rows.take k, full r = true) ∧ Met (heads t.Rows k)) (fun k => stOf [(3, .row 3 1 0 0), (4, .c (.i (heads t.Rows k).length)), (20, .c (.sl 1 (t.Rows.map enc_BoatS))), (21, .c (.i t.Rows.length)), (22, .c (.i k))] [(3, .row 1 (seenOf (heads t.Rows k)))]) (fun k => t.Rows.length - k) 0 ⟨by simp, by simp, by simp [heads_zero], by simp [heads_zero], by simp [heads_zero]⟩ (by apply le_of <;> simp [AV.refs1, AV.ref0, Obj.refs1, heads_zero, seen_nil]) ?_
    rintro k ⟨hk, hall, hm⟩
    rcases Nat.lt_or_ge k t.Rows.length with hlt | hge
    · obtain ⟨r, hr⟩ : ∃ r, t.Rows[k]? = some r := ⟨_, List.getElem?_eq_getElem hlt⟩
      have hml := hm.len
      have hrs := (h.2 r (List.mem_of_getElem? hr)).1
      obtain ⟨rest, hsp⟩ := boats_split hr
      simp -dsimp -implicitDefEqProofs [hr, lt_t hlt]
      intro hrl
      refine ⟨fun hr0 _ => ⟨by unfold inI; omega, fun h6 => ?_, fun h6 _ => ?_⟩, fun hr0 => ?_⟩
      · refine tf_len ?_
        rw [hsp]; simp only [List.length_append]; omega
      · refine loop_rule (ι := Nat) (fun j => j ≤ r.length ∧ Met (soFar t k r j)) (fun j => stOf [(3, .row 3 1 0 0), (4, .c (.i (soFar t k r j).length)), (20, .c (.sl 1 (t.Rows.map enc_BoatS))), (21, .c (.i t.Rows.length)), (22, .c (.i k)), (36, .c (.sl 6 (r.map Boat.enc))), (37, .c (.i r.length)), (38, .c (.i j))] [(3, .row 1 (seenOf (soFar t k r j)))]) (fun j => r.length - j) 0 ⟨by simp, by rw [soFar_zero]; exact hm⟩ (by apply le_of <;> simp [AV.refs1, AV.ref0, Obj.refs1, soFar_zero]) ?_
        rintro j ⟨hj, hmj⟩
        rcases Nat.lt_or_ge j r.length with hlt2 | hge2
        · obtain ⟨b, hb⟩ : ∃ b, r[j]? = some b := ⟨_, List.getElem?_eq_getElem hlt2⟩
          have hsl := soFar_len (t := t) (k := k) hj
          have hlt6 : (soFar t k r j).length < 6 := by omega
          have hmem : b ∈ t.boats := by
            rw [hsp]; simp only [List.mem_append]; exact .inl (.inr (List.mem_of_getElem? hb))
          simp -dsimp -implicitDefEqProofs [hb, lt_t hlt2]
          refine ⟨_, _, BoatOk_impl b, by simp, .inr rfl, ?_⟩
          simp -dsimp -implicitDefEqProofs
          refine ⟨fun h2 => ?_, fun h2 => tf_boat hmem h2⟩
          have hsn := seen_len hmj.len
          refine ⟨by omega, hsn, ?_⟩
          refine ⟨_, _, Contains_c ((soFar t k r j).map idOf) b.Id, by simp [seen_take], .inr rfl, ?_⟩
          simp -dsimp -implicitDefEqProofs [lt_t hlt2, seen_get hlt6, seen_set hlt6]
          refine ⟨fun x hx he => tf_ids fun hn => ?_, fun h3 => ?_⟩
          · have hsp2 : t.boats = soFar t k r j ++ (b :: (r.drop (j + 1) ++ rest)) := by
              rw [hsp]; unfold soFar
              have : r = r.take j ++ b :: r.drop (j + 1) := by
                conv => lhs; rw [← List.take_append_drop j r]
                rw [List.drop_eq_getElem_cons hlt2, (List.getElem?_eq_some_iff.1 hb).2]
              conv => lhs; rw [this]
              simp
            rw [hsp2, List.map_append, List.map_cons] at hn
            exact (List.nodup_append.1 hn).2.2 _ (List.mem_map_of_mem hx) _ (List.mem_cons_self) he
          · have hni : b.Id ∉ (soFar t k r j).map idOf := by
              intro hm'
              obtain ⟨x, hx, he⟩ := List.mem_map.1 hm'
              exact h3 x hx he
            have hs1 := soFar_succ (t := t) (k := k) hb
            refine ⟨by omega, by omega, by unfold inI; omega, by unfold inI; omega, j + 1, ⟨hlt2, by rw [hs1]; exact hmj.snoc h2 hni hlt6⟩, by omega, ?_⟩
            apply le_of <;> simp [AV.refs1, AV.ref0, Obj.refs1, hs1]
        · simp -dsimp -implicitDefEqProofs [lt_f hge2]
          rw [soFar_all hr hge2] at hmj
          refine ⟨by unfold inI; omega, k + 1, ⟨hlt, all_take_succ (p := full) hr hall (by simp [full, hr0]), hmj⟩, by omega, ?_⟩
          apply le_of <;> simp [AV.refs1, AV.ref0, Obj.refs1, soFar_all hr hge2]
      · exact tf_full hr (by simp [hr0])
    · simp -dsimp -implicitDefEqProofs [lt_f hge]
      rw [heads_all hge] at hm
      have hr1 := all_of_take (p := full) hge hall
      have hb1 : t.boats.all BoatOk = true := List.all_eq_true.2 hm.ok
      have hl1 : 0 < t.boats.length := by
        obtain ⟨r, l, e⟩ := List.exists_cons_of_ne_nil h0
        have := full_iff.1 (List.all_eq_true.1 hr1 r (by rw [e]; simp))
        unfold Train.boats
        rw [e]; simp only [List.flatten_cons, List.length_append]; omega
      have hl2 : t.boats.length ≤ 6 := hm.len
      have h7 : inRange t.boats.length 1 6 = true := inRange_iff.2 (by omega)
      have hn1 : (t.boats.map idOf).Nodup := hm.nd
      simp [TrainOk, hr1, hb1, hn1, h7]
  · have : t.boats = [] := by simp [Train.boats, h0]
    have h7 : inRange t.boats.length 1 6 = false := by rw [this]; rfl
    simp only [TrainOk, h7, Bool.and_false]
def MoverOk (m : Mover) (w : Way) : Bool := WayOk w && TrainOk m.Train && inRange m.Place 0 w.Long
theorem MoverOk_impl (m : Mover) (w : Way) (h : m.small) : PureF Try.prog n_impl_MoverOk [.agg (m.enc.map .c), .agg (w.enc.map .c)] (.c (.b (MoverOk m w))) := by
  refine pure_of h_impl_MoverOk (by simp) fun hwf => ?_
  simp -dsimp -implicitDefEqProofs [c_impl_MoverOk]
  refine call_lend (WayOk_impl w) (by simp) rfl ?_
  simp -dsimp -implicitDefEqProofs
  refine ⟨fun h1 => ?_, fun h1 => by simp [MoverOk, h1]⟩
  refine call_lend (TrainOk_impl m.Train h) (by simp) rfl ?_
  simp -dsimp -implicitDefEqProofs
  refine ⟨fun h2 => ?_, fun h2 => by simp [MoverOk, h2]⟩
  refine call_lend (inRange_impl m.Place 0 w.Long) (by simp) rfl ?_
  simp -dsimp -implicitDefEqProofs
  simp [MoverOk, h1, h2]
def endOf (t : Train) (w : Way) : Int := if t.Up then 0 else w.Long
theorem endOf_c (t : Train) (w : Way) : PureF Try.prog n_impl_endOf [.agg (t.enc.map .c), .agg (w.enc.map .c)] (.c (.i (endOf t w))) := by
  refine pure_of h_impl_endOf (by simp) fun hwf => ?_
  simp -dsimp -implicitDefEqProofs [c_impl_endOf]
  exact ⟨fun h => by simp [endOf, h], fun h => by simp [endOf, h]⟩
def AtEnd (m : Mover) (w : Way) : Bool := MoverOk m w && decide (m.Place = endOf m.Train w)
theorem AtEnd_impl (m : Mover) (w : Way) (h : m.small) : PureF Try.prog n_impl_AtEnd [.agg (m.enc.map .c), .agg (w.enc.map .c)] (.c (.b (AtEnd m w))) := by
  refine pure_of h_impl_AtEnd (by simp) fun hwf => ?_
  simp -dsimp -implicitDefEqProofs [c_impl_AtEnd]
  refine ⟨_, _, MoverOk_impl m w h, by simp, .inl rfl, ?_⟩
  simp -dsimp -implicitDefEqProofs
  refine ⟨fun h1 => ?_, fun h1 => by simp [AtEnd, h1]⟩
  refine ⟨_, _, endOf_c m.Train w, by simp, .inl rfl, ?_⟩
  simp -dsimp -implicitDefEqProofs
  simp [AtEnd, h1]
/-- The greatest, the least of what the boats have. -/
def maxOf (f : Boat → Int) (l : List Boat) (z : Int) : Int := l.foldl (fun m b => if m < f b then f b else m) z
def minOf (f : Boat → Int) (l : List Boat) (z : Int) : Int := l.foldl (fun m b => if f b < m then f b else m) z
def maxTo (f : Boat → Int) (l : List Boat) (z : Int) (k : Nat) : Int := maxOf f (l.take k) z
def minTo (f : Boat → Int) (l : List Boat) (z : Int) (k : Nat) : Int := minOf f (l.take k) z
theorem maxTo_zero {f : Boat → Int} {l : List Boat} {z : Int} : maxTo f l z 0 = z := rfl
theorem minTo_zero {f : Boat → Int} {l : List Boat} {z : Int} : minTo f l z 0 = z := rfl
theorem maxTo_succ {f : Boat → Int} {l : List Boat} {z : Int} {k : Nat} {b : Boat} (h : l[k]? = some b) : maxTo f l z (k + 1) = if maxTo f l z k < f b then f b else maxTo f l z k := by
  unfold maxTo maxOf; rw [List.take_succ, h, List.foldl_append]; rfl
theorem minTo_succ {f : Boat → Int} {l : List Boat} {z : Int} {k : Nat} {b : Boat} (h : l[k]? = some b) : minTo f l z (k + 1) = if f b < minTo f l z k then f b else minTo f l z k := by
  unfold minTo minOf; rw [List.take_succ, h, List.foldl_append]; rfl
theorem maxTo_all {f : Boat → Int} {l : List Boat} {z : Int} {k : Nat} (h : l.length ≤ k) : maxTo f l z k = maxOf f l z := by
  unfold maxTo; rw [List.take_of_length_le h]
theorem minTo_all {f : Boat → Int} {l : List Boat} {z : Int} {k : Nat} (h : l.length ≤ k) : minTo f l z k = minOf f l z := by
  unfold minTo; rw [List.take_of_length_le h]
theorem maxOf_in {f : Boat → Int} {a b : Int} : ∀ {l : List Boat} {z : Int}, (∀ x ∈ l, a ≤ f x ∧ f x ≤ b) → a ≤ z → z ≤ b → a ≤ maxOf f l z ∧ maxOf f l z ≤ b
  | [], z, _, h1, h2 => ⟨h1, h2⟩
  | x :: l, z, h, h1, h2 => by
    have := h x (by simp)
    unfold maxOf
    rw [List.foldl_cons]
    refine maxOf_in (l := l) (fun y hy => h y (by simp [hy])) ?_ ?_ <;> split <;> omega
theorem minOf_in {f : Boat → Int} {a b : Int} : ∀ {l : List Boat} {z : Int}, (∀ x ∈ l, a ≤ f x ∧ f x ≤ b) → a ≤ z → z ≤ b → a ≤ minOf f l z ∧ minOf f l z ≤ b
  | [], z, _, h1, h2 => ⟨h1, h2⟩
  | x :: l, z, h, h1, h2 => by
    have := h x (by simp)
    unfold minOf
    rw [List.foldl_cons]
    refine minOf_in (l := l) (fun y hy => h y (by simp [hy])) ?_ ?_ <;> split <;> omega
structure TrainFacts (t : Train) : Prop where
  rows : ∀ r ∈ t.Rows, full r = true
  ok : ∀ b ∈ t.boats, BoatOk b = true
  nd : (t.boats.map idOf).Nodup
  pos : 1 ≤ t.boats.length
  len : t.boats.length ≤ 6
theorem trainFacts {t : Train} (h : TrainOk t = true) : TrainFacts t := by
  simp only [TrainOk, Bool.and_eq_true, List.all_eq_true, decide_eq_true_eq] at h
  obtain ⟨⟨⟨h1, h2⟩, h3⟩, h4⟩ := h
  have h5 := inRange_iff.1 h4
  exact ⟨h1, h2, h3, by omega, by omega⟩
theorem boatFacts {b : Boat} (h : BoatOk b = true) : (1 ≤ b.Id ∧ b.Id ≤ 9999) ∧ (1 ≤ b.Length ∧ b.Length ≤ 200) ∧ (1 ≤ b.Width ∧ b.Width ≤ 30) ∧ (1 ≤ b.Draught ∧ b.Draught ≤ 100) ∧ (1 ≤ b.Speed ∧ b.Speed ≤ 50) ∧ (0 ≤ b.Class ∧ b.Class ≤ 2) := by
  simp only [BoatOk, Bool.and_eq_true] at h
  obtain ⟨⟨⟨⟨⟨h1, h2⟩, h3⟩, h4⟩, h5⟩, h6⟩ := h
  exact ⟨inRange_iff.1 h1, inRange_iff.1 h2, inRange_iff.1 h3, inRange_iff.1 h4, inRange_iff.1 h5, inRange_iff.1 h6⟩
theorem boatsOf_c (t : Train) (h : t.small) : PureF Try.prog n_impl_boatsOf [.agg (t.enc.map .c)] (.c (.sl 6 (t.boats.map Boat.enc))) := by
  refine pure_of h_impl_boatsOf (by simp) fun hwf => ?_
  simp -dsimp -implicitDefEqProofs [c_impl_boatsOf]
  intro hlen
  refine virt_rule (k0 := 6) 3 6 (by simp) (by simp) (by decide) ?_
  refine loop_rule (ι := Nat) (fun k => k ≤ t.Rows.length) (fun k => stOf [(3, .own 3 6 (heads t.Rows k).length), (7, .c (.sl 1 (t.Rows.map enc_BoatS))), (8, .c (.i t.Rows.length)), (9, .c (.i k))] [(3, .row 6 ((heads t.Rows k).map Boat.enc))]) (fun k => t.Rows.length - k) 0 (by simp) (by apply le_of <;> simp [AV.refs1, AV.ref0, Obj.refs1, heads_zero]) ?_
  rintro k hk
  rcases Nat.lt_or_ge k t.Rows.length with hlt | hge
  · obtain ⟨r, hr⟩ : ∃ r, t.Rows[k]? = some r := ⟨_, List.getElem?_eq_getElem hlt⟩
    have hb := heads_bound h (k + 1)
    have hf := heads_succ hr
    rw [hf, List.length_append] at hb
    simp -dsimp -implicitDefEqProofs [hr, lt_t hlt]
    refine ⟨by omega, inI_succ hlt hlen, k + 1, hlt, by omega, ?_⟩
    apply le_of <;> simp [AV.refs1, AV.ref0, Obj.refs1, hf]
  · simp -dsimp -implicitDefEqProofs [lt_f hge]
    rw [heads_all hge]
    rw [List.take_of_length_le (by rw [List.length_map]; exact Nat.le_refl _)]; rfl
def DraughtOf (t : Train) : Int := if TrainOk t then maxOf Boat.Draught t.boats 0 else 0
theorem DraughtOf_impl (t : Train) (h : t.small) : PureF Try.prog n_impl_DraughtOf [.agg (t.enc.map .c)] (.c (.i (DraughtOf t))) := by
  refine pure_of h_impl_DraughtOf (by simp) fun hwf => ?_
  simp -dsimp -implicitDefEqProofs [c_impl_DraughtOf]
  refine call_lend (TrainOk_impl t h) (by simp) rfl ?_
  simp -dsimp -implicitDefEqProofs
  refine ⟨fun h1 => by simp [DraughtOf, h1], fun h1 => ?_⟩
  refine call_pure (boatsOf_c t h) (by simp) rfl ?_
  simp -dsimp -implicitDefEqProofs
  intro hlen
  refine loop_rule (ι := Nat) (fun k => k ≤ t.boats.length) (fun k => stOf [(3, .c (.i (maxTo Boat.Draught t.boats 0 k))), (10, .c (.sl 6 (t.boats.map Boat.enc))), (11, .c (.i t.boats.length)), (12, .c (.i k))] []) (fun k => t.boats.length - k) 0 (by simp) (by apply le_of <;> simp [AV.refs1, AV.ref0, Obj.refs1, maxTo_zero]) ?_
  rintro k hk
  rcases Nat.lt_or_ge k t.boats.length with hlt | hge
  · obtain ⟨b, hb⟩ : ∃ b, t.boats[k]? = some b := ⟨_, List.getElem?_eq_getElem hlt⟩
    simp -dsimp -implicitDefEqProofs [hb, lt_t hlt]
    refine ⟨inI_succ hlt hlen, k + 1, hlt, by omega, ?_⟩
    apply le_of <;> simp [AV.refs1, AV.ref0, Obj.refs1, maxTo_succ hb]
  · simp -dsimp -implicitDefEqProofs [lt_f hge]
    simp [DraughtOf, h1, maxTo_all hge]
theorem DraughtOf_spec (t : Train) (h : t.small) : PureF Try.prog n_spec_DraughtOf [.agg (t.enc.map .c)] (.c (.i (DraughtOf t))) := by
  refine pure_of h_spec_DraughtOf (by simp) fun hwf => ?_
  simp -dsimp -implicitDefEqProofs [c_spec_DraughtOf]
  refine call_pure (l04Boats_c t h) (by simp) rfl ?_
  simp -dsimp -implicitDefEqProofs
  refine loop_rule (ι := Nat) (fun k => k ≤ t.boats.length ∧ (k ≠ 0 → TrainOk t = true)) (fun k => stOf [(1, .box 1 0), (3, .c (.i (maxTo Boat.Draught t.boats 0 k))), (4, .c (.sl 6 (t.boats.map Boat.enc))), (5, .c (.i k))] [(1, .box (t.enc.map .c))]) (fun k => t.boats.length - k) 0 (by simp) (by apply le_of <;> simp [AV.refs1, AV.ref0, Obj.refs1, maxTo_zero]) ?_
  rintro k ⟨hk, hok⟩
  rcases Nat.lt_or_ge k t.boats.length with hlt | hge
  · obtain ⟨b, hb⟩ : ∃ b, t.boats[k]? = some b := ⟨_, List.getElem?_eq_getElem hlt⟩
    simp -dsimp -implicitDefEqProofs [hb, lt_t hlt]
    intro hlen
    refine call_lend (TrainOk_spec t h) (by simp) rfl ?_
    simp -dsimp -implicitDefEqProofs [hb, lt_t hlt]
    refine ⟨fun h1 => ?_, fun h1 => ?_⟩
    · refine ⟨inI_succ hlt hlen, k + 1, ⟨hlt, fun _ => h1⟩, by omega, ?_⟩
      apply le_of <;> simp [AV.refs1, AV.ref0, Obj.refs1, maxTo_succ hb]
    · have : k = 0 := by
        rcases Nat.eq_zero_or_pos k with e | e
        · exact e
        · rw [hok (by omega)] at h1; cases h1
      subst this
      simp [DraughtOf, h1, maxTo_zero]
  · simp -dsimp -implicitDefEqProofs [lt_f hge]
    intro _
    by_cases h1 : TrainOk t = true
    · simp [DraughtOf, h1, maxTo_all hge]
    · have h2 : k = 0 := by
        rcases Nat.eq_zero_or_pos k with e | e
        · exact e
        · exact absurd (hok (by omega)) h1
      subst h2
      simp [DraughtOf, h1, maxTo_zero]
def firstOf (f : Boat → Int) (l : List Boat) : Int := match l with | b :: _ => f b | [] => 0
def SpeedOf (t : Train) : Int := if TrainOk t then minOf Boat.Speed t.boats (firstOf Boat.Speed t.boats) else 0
theorem get0 {l : List Boat} {b : Boat} (h : l[0]? = some b) (f : Boat → Int) : firstOf f l = f b := by
  cases l with
  | nil => simp at h
  | cons x l => simp at h; rw [h]; rfl
theorem first_row {t : Train} (h : TrainFacts t) : ∃ r b, t.Rows[0]? = some r ∧ r[0]? = some b ∧ t.boats[0]? = some b := by
  have h1 := h.pos
  cases hr : t.Rows with
  | nil => unfold Train.boats at h1; rw [hr] at h1; simp at h1
  | cons r l =>
    have h2 := full_iff.1 (h.rows r (by rw [hr]; simp))
    cases r with
    | nil => simp at h2
    | cons b r => exact ⟨b :: r, b, rfl, rfl, by unfold Train.boats; rw [hr]; rfl⟩
theorem SpeedOf_impl (t : Train) (h : t.small) : PureF Try.prog n_impl_SpeedOf [.agg (t.enc.map .c)] (.c (.i (SpeedOf t))) := by
  refine pure_of h_impl_SpeedOf (by simp) fun hwf => ?_
  simp -dsimp -implicitDefEqProofs [c_impl_SpeedOf]
  refine call_lend (TrainOk_impl t h) (by simp) rfl ?_
  simp -dsimp -implicitDefEqProofs
  refine ⟨fun h1 => by simp [SpeedOf, h1], fun h1 => ?_⟩
  obtain ⟨r, b0, e1, e2, e3⟩ := first_row (trainFacts h1)
  have l1 : 0 < t.Rows.length := (List.getElem?_eq_some_iff.1 e1).1
  have l2 : 0 < r.length := (List.getElem?_eq_some_iff.1 e2).1
  have f1 := (List.getElem?_eq_some_iff.1 e1).2
  have f2 := (List.getElem?_eq_some_iff.1 e2).2
  simp -dsimp -implicitDefEqProofs [e1, e2, l1, l2, f1, f2]
  refine call_pure (boatsOf_c t h) (by simp) rfl ?_
  simp -dsimp -implicitDefEqProofs
  intro hlen
  refine loop_rule (ι := Nat) (fun k => k ≤ t.boats.length) (fun k => stOf [(3, .c (.i (minTo Boat.Speed t.boats b0.Speed k))), (17, .c (.sl 6 (t.boats.map Boat.enc))), (18, .c (.i t.boats.length)), (19, .c (.i k))] []) (fun k => t.boats.length - k) 0 (by simp) (by apply le_of <;> simp [AV.refs1, AV.ref0, Obj.refs1, minTo_zero]) ?_
  rintro k hk
  rcases Nat.lt_or_ge k t.boats.length with hlt | hge
  · obtain ⟨b, hb⟩ : ∃ b, t.boats[k]? = some b := ⟨_, List.getElem?_eq_getElem hlt⟩
    simp -dsimp -implicitDefEqProofs [hb, lt_t hlt]
    refine ⟨inI_succ hlt hlen, k + 1, hlt, by omega, ?_⟩
    apply le_of <;> simp [AV.refs1, AV.ref0, Obj.refs1, minTo_succ hb]
  · simp -dsimp -implicitDefEqProofs [lt_f hge]
    simp [SpeedOf, h1, minTo_all hge, get0 e3]
theorem SpeedOf_spec (t : Train) (h : t.small) : PureF Try.prog n_spec_SpeedOf [.agg (t.enc.map .c)] (.c (.i (SpeedOf t))) := by
  refine pure_of h_spec_SpeedOf (by simp) fun hwf => ?_
  simp -dsimp -implicitDefEqProofs [c_spec_SpeedOf]
  refine call_pure (l04Boats_c t h) (by simp) rfl ?_
  simp -dsimp -implicitDefEqProofs
  refine call_lend (TrainOk_spec t h) (by simp) rfl ?_
  simp -dsimp -implicitDefEqProofs
  refine ⟨fun h1 => by simp [SpeedOf, h1], fun h1 => ?_⟩
  obtain ⟨r, b0, e1, e2, e3⟩ := first_row (trainFacts h1)
  have l1 : 0 < t.boats.length := (List.getElem?_eq_some_iff.1 e3).1
  have f3 := (List.getElem?_eq_some_iff.1 e3).2
  simp -dsimp -implicitDefEqProofs [e3, l1, f3]
  refine loop_rule (ι := Nat) (fun k => k ≤ t.boats.length) (fun k => stOf [(3, .c (.sl 6 (t.boats.map Boat.enc))), (4, .c (.i (minTo Boat.Speed t.boats b0.Speed k))), (5, .c (.i k))] []) (fun k => t.boats.length - k) 0 (by simp) (by apply le_of <;> simp [AV.refs1, AV.ref0, Obj.refs1, minTo_zero]) ?_
  rintro k hk
  rcases Nat.lt_or_ge k t.boats.length with hlt | hge
  · obtain ⟨b, hb⟩ : ∃ b, t.boats[k]? = some b := ⟨_, List.getElem?_eq_getElem hlt⟩
    simp -dsimp -implicitDefEqProofs [hb, lt_t hlt]
    intro hlen
    refine ⟨inI_succ hlt hlen, k + 1, hlt, by omega, ?_⟩
    apply le_of <;> simp [AV.refs1, AV.ref0, Obj.refs1, minTo_succ hb]
  · simp -dsimp -implicitDefEqProofs [lt_f hge]
    intro _
    simp [SpeedOf, h1, minTo_all hge, get0 e3]
theorem DraughtOf_in (t : Train) : 0 ≤ DraughtOf t ∧ DraughtOf t ≤ 100 := by
  unfold DraughtOf
  split
  · rename_i h
    have hf := trainFacts h
    exact maxOf_in (fun x hx => by have := boatFacts (hf.ok x hx); omega) (by omega) (by omega)
  · omega
theorem SpeedOf_in (t : Train) : 0 ≤ SpeedOf t ∧ SpeedOf t ≤ 50 := by
  unfold SpeedOf
  split
  · rename_i h
    have hf := trainFacts h
    obtain ⟨r, b0, e1, e2, e3⟩ := first_row hf
    have := boatFacts (hf.ok b0 (List.mem_of_getElem? e3))
    exact minOf_in (fun x hx => by have := boatFacts (hf.ok x hx); omega) (by rw [get0 e3]; omega) (by rw [get0 e3]; omega)
  · omega
def PaceOf (t : Train) (depth : Int) : Int := if TrainOk t && inRange depth 0 1000000000 && decide (DraughtOf t ≤ depth) then if 2 * depth < 3 * DraughtOf t then (SpeedOf t + 1).tdiv 2 else SpeedOf t else 0
theorem PaceOf_no1 {t : Train} {d : Int} (h : TrainOk t = false) : PaceOf t d = 0 := by simp [PaceOf, h]
theorem PaceOf_no2 {t : Train} {d : Int} (h : inRange d 0 1000000000 = false) : PaceOf t d = 0 := by simp [PaceOf, h]
theorem PaceOf_no3 {t : Train} {d : Int} (h : d < DraughtOf t) : PaceOf t d = 0 := by
  have : ¬ DraughtOf t ≤ d := by omega
  simp [PaceOf, this]
theorem PaceOf_impl (t : Train) (d : Int) (h : t.small) : PureF Try.prog n_impl_PaceOf [.agg (t.enc.map .c), .c (.i d)] (.c (.i (PaceOf t d))) := by
  refine pure_of h_impl_PaceOf (by simp) fun hwf => ?_
  have hd := DraughtOf_in t
  have hs := SpeedOf_in t
  simp -dsimp -implicitDefEqProofs [c_impl_PaceOf]
  refine call_lend (TrainOk_impl t h) (by simp) rfl ?_
  simp -dsimp -implicitDefEqProofs
  refine ⟨fun h1 => ?_, fun h1 => PaceOf_no1 h1⟩
  refine call_lend (inRange_impl d 0 1000000000) (by simp) rfl ?_
  simp -dsimp -implicitDefEqProofs
  refine ⟨fun h2 => ?_, fun h2 => PaceOf_no2 h2⟩
  have h2' := inRange_iff.1 h2
  refine call_lend (DraughtOf_impl t h) (by simp) rfl ?_
  simp -dsimp -implicitDefEqProofs
  refine ⟨fun h3 => PaceOf_no3 h3, fun h3 => ?_⟩
  refine ⟨by unfold inI; omega, ?_⟩
  refine call_lend (DraughtOf_impl t h) (by simp) rfl ?_
  simp -dsimp -implicitDefEqProofs
  refine ⟨by unfold inI; omega, fun h4 => ?_, fun h4 => ?_⟩
  · refine call_lend (SpeedOf_impl t h) (by simp) rfl ?_
    simp -dsimp -implicitDefEqProofs
    have ht : (SpeedOf t + 1).tdiv 2 = (SpeedOf t + 1) / 2 := Int.tdiv_eq_ediv_of_nonneg (by omega)
    exact ⟨by unfold inI; omega, by rw [ht]; unfold inI; omega, by simp [PaceOf, h1, h2, h3, h4]⟩
  · refine call_lend (SpeedOf_impl t h) (by simp) rfl ?_
    simp -dsimp -implicitDefEqProofs
    have h4' : ¬ 2 * d < 3 * DraughtOf t := by omega
    simp [PaceOf, h1, h2, h3, h4']
def small_IntS : List Int → Prop := smallS fun _ => True
structure Point where
  X : Int
  Y : Int
  deriving DecidableEq, Inhabited
@[simp] def Point.enc (e : Point) : List C := [.i e.X, .i e.Y]
-- Point
def small_PointS : List Point → Prop := smallS fun _ => True
structure Reach where
  Table : List Point
  Volume : Int
  Pipe : List Int
  deriving DecidableEq, Inhabited
@[simp] def Reach.enc (e : Reach) : List C := [.sl 2 (e.Table.map Point.enc), .i e.Volume, .sl 1 (e.Pipe.map ienc)]
-- Reach
def Reach.small (e : Reach) : Prop := small_PointS e.Table ∧ small_IntS e.Pipe
theorem take_all0 {α β : Type} {f : α → β} {l : List α} : (l.map f).take l.length = l.map f := List.take_of_length_le (by simp)
def IdsOf (t : Train) : List Int := if TrainOk t then t.boats.map idOf else []
def idsTo2 (t : Train) (k : Nat) : List Int := (t.boats.take k).map idOf
theorem idsTo2_zero {t : Train} : idsTo2 t 0 = [] := rfl
theorem idsTo2_succ {t : Train} {k : Nat} {b : Boat} (h : t.boats[k]? = some b) : idsTo2 t (k + 1) = idsTo2 t k ++ [b.Id] := by
  unfold idsTo2; rw [List.take_succ, h, List.map_append]; rfl
theorem idsTo2_all {t : Train} {k : Nat} (h : t.boats.length ≤ k) : idsTo2 t k = t.boats.map idOf := by
  unfold idsTo2; rw [List.take_of_length_le h]
theorem idsTo2_len {t : Train} {k : Nat} (h : k ≤ t.boats.length) : (idsTo2 t k).length = k := by
  unfold idsTo2; simp; omega
theorem IdsOf_implP (t : Train) (h : t.small) : PureF Try.prog n_impl_IdsOf [.agg (t.enc.map .c)] (.c (.sl 1 ((IdsOf t).map ienc))) := by
  refine pure_of h_impl_IdsOf (by simp) fun hwf => ?_
  simp -dsimp -implicitDefEqProofs [c_impl_IdsOf]
  first
    | refine call_lend (TrainOk_impl t h) (by simp) rfl ?_
    | refine call_pure (TrainOk_impl t h) (by simp) rfl ?_
    | refine ⟨_, _, TrainOk_impl t h, by simp, .inr rfl, ?_⟩
    | refine ⟨_, _, TrainOk_impl t h, by simp, .inl rfl, ?_⟩
    | refine callE_pure (TrainOk_impl t h) (by simp) (.inr rfl) ?_
    | refine callE_pure (TrainOk_impl t h) (by simp) (.inl rfl) ?_
  cases h1 : TrainOk t with
  | false => simp -dsimp -implicitDefEqProofs; simp [IdsOf, h1]
  | true =>
    have tf := trainFacts h1
    have h6 := tf.len
    simp -dsimp -implicitDefEqProofs
    first
      | refine call_lend (boatsOf_c t h) (by simp) rfl ?_
      | refine call_pure (boatsOf_c t h) (by simp) rfl ?_
      | refine ⟨_, _, boatsOf_c t h, by simp, .inr rfl, ?_⟩
      | refine ⟨_, _, boatsOf_c t h, by simp, .inl rfl, ?_⟩
      | refine callE_pure (boatsOf_c t h) (by simp) (.inr rfl) ?_
      | refine callE_pure (boatsOf_c t h) (by simp) (.inl rfl) ?_
    simp -dsimp -implicitDefEqProofs
    intro hlen
    refine virt_rule (k0 := 1) 3 1 (by simp) (by simp) (by decide) ?_
    refine loop_rule (ι := Nat) (fun k => k ≤ t.boats.length) (fun k => stOf [(3, .own 3 1 (idsTo2 t k).length), (10, .c (.sl 6 (t.boats.map Boat.enc))), (11, .c (.i t.boats.length)), (12, .c (.i k))] [(3, .row 1 ((idsTo2 t k).map ienc))]) (fun k => t.boats.length - k) 0 (by simp) (by apply le_of <;> simp [AV.refs1, AV.ref0, Obj.refs1, idsTo2_zero]) ?_
    rintro k hk
    have hkl := idsTo2_len hk
    rcases Nat.lt_or_ge k t.boats.length with hlt | hge
    · obtain ⟨b, hb⟩ : ∃ b, t.boats[k]? = some b := ⟨_, List.getElem?_eq_getElem hlt⟩
      simp -dsimp -implicitDefEqProofs [hb, lt_t hlt]
      refine ⟨by omega, inI_succ hlt hlen, k + 1, hlt, by omega, ?_⟩
      apply le_of <;> simp [AV.refs1, AV.ref0, Obj.refs1, idsTo2_succ hb]
    · simp -dsimp -implicitDefEqProofs [lt_f hge]
      rw [take_all0, idsTo2_all hge]
      simp [IdsOf, h1]
def small_TrainS : List Train → Prop := smallS Train.small
structure Lock where
  Length : Int
  Width : Int
  SillAbove : Int
  SillBelow : Int
  Base : Int
  Area : Int
  Rate : Int
  Water : Int
  Gate : Int
  Inside : List Train
  deriving DecidableEq, Inhabited
@[simp] def Lock.enc (e : Lock) : List C := [.i e.Length, .i e.Width, .i e.SillAbove, .i e.SillBelow, .i e.Base, .i e.Area, .i e.Rate, .i e.Water, .i e.Gate, .sl 2 (e.Inside.map Train.enc)]
-- Lock
def Lock.small (e : Lock) : Prop := small_TrainS e.Inside
structure Weir where
  Gates : Int
  Open : Int
  Step : Int
  Crest : Int
  Width : Int
  deriving DecidableEq, Inhabited
@[simp] def Weir.enc (e : Weir) : List C := [.i e.Gates, .i e.Open, .i e.Step, .i e.Crest, .i e.Width]
-- Weir
structure Rule where
  Low : Int
  High : Int
  Flood : Int
  deriving DecidableEq, Inhabited
@[simp] def Rule.enc (e : Rule) : List C := [.i e.Low, .i e.High, .i e.Flood]
-- Rule
structure Pause where
  From : Int
  Until : Int
  deriving DecidableEq, Inhabited
@[simp] def Pause.enc (e : Pause) : List C := [.i e.From, .i e.Until]
-- Pause
def small_PauseS : List Pause → Prop := smallS fun _ => True
structure Turn where
  Up : Bool
  Count : Int
  deriving DecidableEq, Inhabited
@[simp] def Turn.enc (e : Turn) : List C := [.b e.Up, .i e.Count]
-- Turn
structure CallT where
  Train : Train
  Since : Int
  Booked : Int
  deriving DecidableEq, Inhabited
@[simp] def CallT.enc (e : CallT) : List C := [.b e.Train.Up, .sl 1 (e.Train.Rows.map enc_BoatS), .i e.Since, .i e.Booked]
-- Call
def CallT.small (e : CallT) : Prop := e.Train.small
def small_CallS : List CallT → Prop := smallS CallT.small
structure Work where
  Lock : Lock
  Weir : Weir
  Rule : Rule
  Pauses : List Pause
  Turn : Turn
  Calls : List CallT
  deriving DecidableEq, Inhabited
@[simp] def Work.enc (e : Work) : List C := [.i e.Lock.Length, .i e.Lock.Width, .i e.Lock.SillAbove, .i e.Lock.SillBelow, .i e.Lock.Base, .i e.Lock.Area, .i e.Lock.Rate, .i e.Lock.Water, .i e.Lock.Gate, .sl 2 (e.Lock.Inside.map Train.enc), .i e.Weir.Gates, .i e.Weir.Open, .i e.Weir.Step, .i e.Weir.Crest, .i e.Weir.Width, .i e.Rule.Low, .i e.Rule.High, .i e.Rule.Flood, .sl 2 (e.Pauses.map Pause.enc), .b e.Turn.Up, .i e.Turn.Count, .sl 4 (e.Calls.map CallT.enc)]
-- Work
def Work.small (e : Work) : Prop := e.Lock.small ∧ small_PauseS e.Pauses ∧ small_CallS e.Calls
def bAdd (b : List Int) (i d : Int) : List Int := b.set i.toNat (b[i.toNat]?.getD 0 + d)
def post (b : List Int) (e : Entry) : List Int := bAdd (bAdd b e.From (-e.Amount)) e.To e.Amount
theorem iand_le {a m : Int} (h0 : 0 ≤ m) (h1 : m ≤ 9223372036854775807) : 0 ≤ iand a m ∧ iand a m ≤ m := by
  unfold iand
  have h2 : (BitVec.ofInt 64 m).toNat = m.toNat := by
    rw [BitVec.toNat_ofInt, Int.emod_eq_of_lt h0 (by omega)]
  have h3 : (BitVec.ofInt 64 a &&& BitVec.ofInt 64 m).toNat ≤ m.toNat := by rw [BitVec.toNat_and, h2]; exact Nat.and_le_right
  rw [wrap_inI (inI_of (by omega) (by omega))]
  omega
def nenc (n : Nat) : List C := [.u n]
def hNext (h : Int) : Int := IntKind.i64.wrap (IntKind.i64.wrap (h * 6364136223846793005) + 1442695040888963407)
def hVal (h : Int) : Int := iand (ixor (ishr (hNext h) 33) (ishr (hNext h) 45)) 255
def curC (code : List UInt8) (p : Nat × Int) : List C := [.sl 1 (code.map uenc), .i p.1, .i p.2]
def byteN (code : List UInt8) (p : Nat × Int) : Nat × Int := (if p.1 < code.length then p.1 + 1 else p.1, hNext p.2)
def byteV (code : List UInt8) (p : Nat × Int) : Int :=
  match code[p.1]? with
  | some b => iand (hVal p.2 + b.toNat) 255
  | none => hVal p.2
theorem byteN_ok {code : List UInt8} {p : Nat × Int} (h : p.1 ≤ code.length) : (byteN code p).1 ≤ code.length := by
  unfold byteN; dsimp only; split <;> omega
theorem byteV_rng (code : List UInt8) (p : Nat × Int) : 0 ≤ byteV code p ∧ byteV code p ≤ 255 := by
  unfold byteV
  split
  · exact iand_le (by omega) (by omega)
  · exact iand_le (by omega) (by omega)
theorem hVal_rng (h : Int) : 0 ≤ hVal h ∧ hVal h ≤ 255 := iand_le (by omega) (by omega)
theorem u8_lt (b : UInt8) : b.toNat ≤ 255 := by have := b.toNat_lt; omega
theorem l01Byte_c (code : List UInt8) (p : Nat × Int) (hp : p.1 ≤ code.length) : CurF Try.prog n_spec_l01Byte (curC code p) (curC code (byteN code p)) [] (.c (.i (byteV code p))) := by
  refine cur_of h_spec_l01Byte (by simp) fun hwf hwf2 => ?_
  cases hb : code[p.1]? with
  | none =>
    have hge : code.length ≤ p.1 := by simpa using hb
    have hnl : (p.1 < code.length) = False := by simp; omega
    simp -dsimp -implicitDefEqProofs [c_spec_l01Byte, curC, hnl]
    intro _
    simp [byteN, byteV, hNext, hVal, hb, hnl]
  | some b =>
    have hlt : p.1 < code.length := (List.getElem?_eq_some_iff.1 hb).1
    have hr := hVal_rng p.2
    have g1 := (List.getElem?_eq_some_iff.1 hb).2
    have h8 := u8_lt b
    simp only [hVal, hNext] at hr
    simp -dsimp -implicitDefEqProofs [c_spec_l01Byte, curC, hb, g1, hlt, uenc]
    refine fun hl => ⟨by unfold inI; omega, by unfold maxLen at hl; unfold inI; omega, ?_⟩
    simp [byteN, byteV, hNext, hVal, hb, g1, hlt]
def belowN (code : List UInt8) (n : Int) (p : Nat × Int) : Nat × Int :=
  if n ≤ 256 then byteN code p else byteN code (byteN code (byteN code (byteN code p)))
def belowV (code : List UInt8) (n : Int) (p : Nat × Int) : Int :=
  if n ≤ 256 then (byteV code p).tmod n
  else (byteV code p * 16777216 + byteV code (byteN code p) * 65536 + byteV code (byteN code (byteN code p)) * 256 + byteV code (byteN code (byteN code (byteN code p)))).tmod n
theorem belowN_ok {code : List UInt8} {n : Int} {p : Nat × Int} (h : p.1 ≤ code.length) : (belowN code n p).1 ≤ code.length := by
  unfold belowN
  split
  · exact byteN_ok h
  · exact byteN_ok (byteN_ok (byteN_ok (byteN_ok h)))
theorem belowV_rng {code : List UInt8} {n : Int} {p : Nat × Int} (hn : 1 ≤ n) : 0 ≤ belowV code n p ∧ belowV code n p < n := by
  have h1 := byteV_rng code p
  have h2 := byteV_rng code (byteN code p)
  have h3 := byteV_rng code (byteN code (byteN code p))
  have h4 := byteV_rng code (byteN code (byteN code (byteN code p)))
  unfold belowV
  split
  · rw [Int.tmod_eq_emod_of_nonneg (by omega)]
    exact ⟨Int.emod_nonneg _ (by omega), Int.emod_lt_of_pos _ (by omega)⟩
  · rw [Int.tmod_eq_emod_of_nonneg (by omega)]
    exact ⟨Int.emod_nonneg _ (by omega), Int.emod_lt_of_pos _ (by omega)⟩
theorem l01Below_c (code : List UInt8) (n : Int) (p : Nat × Int) (hp : p.1 ≤ code.length) (hn : 1 ≤ n) (hn2 : n ≤ 1000000) : CurF Try.prog n_spec_l01Below (curC code p) (curC code (belowN code n p)) [.c (.i n)] (.c (.i (belowV code n p))) := by
  refine cur_of h_spec_l01Below (by simp) fun hwf hwf2 => ?_
  simp -dsimp -implicitDefEqProofs [c_spec_l01Below]
  have n0 : (n ≤ 0) = False := by simp; omega
  simp -dsimp -implicitDefEqProofs [n0]
  have hv := belowV_rng (code := code) (p := p) hn
  refine fun _ => ⟨fun h => ?_, fun h => ?_⟩
  · skip
    simp only [belowV, belowN, if_pos h] at hv ⊢
    refine call_cur (l01Byte_c code p hp) (by simp ) (by simp) rfl (by simp [freshO]) ?_
    simp -dsimp -implicitDefEqProofs
    refine ⟨by omega, by unfold inI; omega, ?_⟩
    simp [h]; intros; omega
  · skip
    have h' : ¬ n ≤ 256 := by omega
    simp only [belowV, belowN, if_neg h'] at hv ⊢
    have h1 := byteV_rng code p
    have h2 := byteV_rng code (byteN code p)
    have h3 := byteV_rng code (byteN code (byteN code p))
    have h4 := byteV_rng code (byteN code (byteN code (byteN code p)))
    refine call_cur (l01Byte_c code p hp) (by simp ) (by simp) rfl (by simp [freshO]) ?_
    simp -dsimp -implicitDefEqProofs
    refine call_cur (l01Byte_c code (byteN code p) (byteN_ok hp)) (by simp ) (by simp) rfl (by simp [freshO]) ?_
    simp -dsimp -implicitDefEqProofs
    refine call_cur (l01Byte_c code (byteN code (byteN code p)) (byteN_ok (byteN_ok hp))) (by simp ) (by simp) rfl (by simp [freshO]) ?_
    simp -dsimp -implicitDefEqProofs
    refine call_cur (l01Byte_c code (byteN code (byteN code (byteN code p))) (byteN_ok (byteN_ok (byteN_ok hp)))) (by simp ) (by simp) rfl (by simp [freshO]) ?_
    simp -dsimp -implicitDefEqProofs
    refine ⟨by unfold inI; omega, by unfold inI; omega, by unfold inI; omega, by unfold inI; omega, by unfold inI; omega, by unfold inI; omega, by omega, by unfold inI; omega, ?_⟩
    simp [h']
def hStep (h : Int) (b : UInt8) : Int := iand (h * 131 + b.toNat + 7) 1073741823
def hashTo (code : List UInt8) (k : Nat) : Int := (code.take k).foldl hStep (33173 + code.length)
def hash (code : List UInt8) : Int := hashTo code (min code.length 4000)
theorem hashTo_zero {code : List UInt8} : hashTo code 0 = 33173 + code.length := rfl
theorem hashTo_succ {code : List UInt8} {k : Nat} {b : UInt8} (h : code[k]? = some b) : hashTo code (k + 1) = hStep (hashTo code k) b := by
  unfold hashTo; rw [List.take_succ, h, List.foldl_append]; rfl
theorem hStep_rng (h : Int) (b : UInt8) : 0 ≤ hStep h b ∧ hStep h b ≤ 1073741823 := iand_le (by omega) (by omega)
theorem hashTo_rng {code : List UInt8} (hl : code.length ≤ 1048576) : ∀ k : Nat, 0 ≤ hashTo code k ∧ hashTo code k ≤ 1073741823
  | 0 => by rw [hashTo_zero]; omega
  | k + 1 => by
    cases h : code[k]? with
    | none =>
      have hk : code.length ≤ k := by simpa using h
      have : hashTo code (k + 1) = hashTo code k := by unfold hashTo; rw [List.take_of_length_le (by omega), List.take_of_length_le hk]
      rw [this]; exact hashTo_rng hl k
    | some b => rw [hashTo_succ h]; exact hStep_rng _ _
theorem l01New_o (code : List UInt8) (hl : code.length ≤ 1048576) : OwnF Try.prog n_spec_l01New [.c (.sl 1 (code.map uenc))] (.c (.bx (curC code (0, hash code)))) := by
  refine own_of h_spec_l01New (by simp) fun hwf => ?_
  simp -dsimp -implicitDefEqProofs [c_spec_l01New]
  refine fun hlen => ⟨by unfold inI; omega, ?_⟩
  refine loop_rule (ι := Nat) (fun k => k ≤ min code.length 4000) (fun k => stOf [(0, .c (.sl 1 (code.map uenc))), (3, .c (.i (hashTo code k))), (4, .c (.i k))] []) (fun k => min code.length 4000 - k) 0 (by simp) (by apply le_of <;> simp [AV.refs1, AV.ref0, Obj.refs1, hashTo_zero]) ?_
  rintro k hk
  have hr := hashTo_rng hl k
  rcases Nat.lt_or_ge k code.length with hlt | hge
  · obtain ⟨b, hb⟩ : ∃ b, code[k]? = some b := ⟨_, List.getElem?_eq_getElem hlt⟩
    have g1 := (List.getElem?_eq_some_iff.1 hb).2
    have h8 := u8_lt b
    have hs := hashTo_succ hb
    simp only [hStep] at hs
    simp -dsimp -implicitDefEqProofs [hb, g1, hlt, uenc]
    refine fun _ => ⟨fun h4 => ⟨by unfold inI; omega, by unfold inI; omega, by unfold inI; omega, by unfold inI; omega, k + 1, by omega, by omega, ?_⟩, fun h4 => ?_⟩
    · apply le_of <;> simp [AV.refs1, AV.ref0, Obj.refs1, hs]
    · have e : min code.length 4000 = k := by omega
      simp [curC, hash, e, C.plain]
  · have hnl : (k < code.length) = False := by simp; omega
    simp -dsimp -implicitDefEqProofs [hnl]
    intro _
    have e : min code.length 4000 = k := by omega
    simp [curC, hash, e, C.plain]
def onceV (code : List UInt8) (n : Int) (p : Nat × Int) : Bool := decide (belowV code n p = 0)
theorem l01Once_c (code : List UInt8) (n : Int) (p : Nat × Int) (hp : p.1 ≤ code.length) (hn : 1 ≤ n) (hn2 : n ≤ 1000000) : CurF Try.prog n_spec_l01Once (curC code p) (curC code (belowN code n p)) [.c (.i n)] (.c (.b (onceV code n p))) := by
  refine cur_of h_spec_l01Once (by simp) fun hwf hwf2 => ?_
  simp -dsimp -implicitDefEqProofs [c_spec_l01Once]
  refine call_cur (l01Below_c code n p hp hn hn2) (by simp ) (by simp) rfl (by simp [freshO]) ?_
  simp -dsimp -implicitDefEqProofs
  simp [onceV]
def pickV (code : List UInt8) (l : List Int) (p : Nat × Int) : Int := l[(belowV code l.length p).toNat]?.getD 0
def pickN (code : List UInt8) (l : List Int) (p : Nat × Int) : Nat × Int := belowN code l.length p
theorem pickV_mem {code : List UInt8} {l : List Int} {p : Nat × Int} (hl : 1 ≤ l.length) : pickV code l p ∈ l := by
  have h := belowV_rng (code := code) (n := l.length) (p := p) (by omega)
  have hlt : (belowV code l.length p).toNat < l.length := by omega
  unfold pickV
  rw [List.getElem?_eq_getElem hlt]
  exact List.getElem_mem hlt
theorem l01PickInt_g (code : List UInt8) (l : List Int) (p : Nat × Int) (hp : p.1 ≤ code.length) (hl : 1 ≤ l.length) (hl2 : l.length ≤ 1000) : CurG Try.prog n_spec_l01PickInt (curC code p) (curC code (pickN code l p)) 1 (l.map ienc) (.c (.i (pickV code l p))) := by
  have h := belowV_rng (code := code) (n := l.length) (p := p) (by omega)
  have hlt : (belowV code l.length p).toNat < l.length := by omega
  obtain ⟨v, hv⟩ : ∃ v, l[(belowV code l.length p).toNat]? = some v := ⟨_, List.getElem?_eq_getElem hlt⟩
  have gv := (List.getElem?_eq_some_iff.1 hv).2
  have hpv : pickV code l p = v := by simp [pickV, hv]
  refine curG_of h_spec_l01PickInt (by omega) rfl ?_
  simp -dsimp -implicitDefEqProofs [c_spec_l01PickInt]
  intro hlen
  refine call_cur (l01Below_c code l.length p hp (by omega) (by omega)) (by simp ) (by simp) rfl (by simp [freshO]) ?_
  simp -dsimp -implicitDefEqProofs [hv, gv, hlt, h.1, h.2]
  exact ⟨rfl, hpv⟩
theorem pickN_ok {code : List UInt8} {l : List Int} {p : Nat × Int} (h : p.1 ≤ code.length) : (pickN code l p).1 ≤ code.length := belowN_ok h
def lens4 : List Int := [5, 12, 30, 80]
def boatP1 (code : List UInt8) (p : Nat × Int) : Nat × Int := pickN code lens4 p
def boatP2 (code : List UInt8) (p : Nat × Int) : Nat × Int := belowN code 9 (boatP1 code p)
def boatP3 (code : List UInt8) (p : Nat × Int) : Nat × Int := belowN code 30 (boatP2 code p)
def boatP4 (code : List UInt8) (p : Nat × Int) : Nat × Int := belowN code 12 (boatP3 code p)
def boatN (code : List UInt8) (p : Nat × Int) : Nat × Int := belowN code 3 (boatP4 code p)
def boatV (code : List UInt8) (id : Int) (p : Nat × Int) : Boat :=
  ⟨id, pickV code lens4 p, 1 + belowV code 9 (boatP1 code p), 1 + belowV code 30 (boatP2 code p), 1 + belowV code 12 (boatP3 code p), belowV code 3 (boatP4 code p)⟩
theorem boatN_ok {code : List UInt8} {p : Nat × Int} (h : p.1 ≤ code.length) : (boatN code p).1 ≤ code.length := belowN_ok (belowN_ok (belowN_ok (belowN_ok (pickN_ok h))))
theorem l04Boat_c (code : List UInt8) (id : Int) (p : Nat × Int) (hp : p.1 ≤ code.length) : CurF Try.prog n_spec_l04Boat (curC code p) (curC code (boatN code p)) [.c (.i id)] (.agg ((boatV code id p).enc.map .c)) := by
  have p1 : (boatP1 code p).1 ≤ code.length := pickN_ok hp
  have p2 : (boatP2 code p).1 ≤ code.length := belowN_ok p1
  have p3 : (boatP3 code p).1 ≤ code.length := belowN_ok p2
  have p4 : (boatP4 code p).1 ≤ code.length := belowN_ok p3
  have h2 := belowV_rng (code := code) (n := 9) (p := boatP1 code p) (by omega)
  have h3 := belowV_rng (code := code) (n := 30) (p := boatP2 code p) (by omega)
  have h4 := belowV_rng (code := code) (n := 12) (p := boatP3 code p) (by omega)
  have h5 := belowV_rng (code := code) (n := 3) (p := boatP4 code p) (by omega)
  have hpk := l01PickInt_g code lens4 p hp (by simp [lens4]) (by simp [lens4])
  have e4 : lens4.map ienc = [[.i 5], [.i 12], [.i 30], [.i 80]] := rfl
  refine cur_of h_spec_l04Boat (by simp) fun hwf hwf2 => ?_
  simp -dsimp -implicitDefEqProofs [c_spec_l04Boat]
  refine call_curG (rows := [[.i 5], [.i 12], [.i 30], [.i 80]]) (by simpa [e4] using hpk) (by simp) (by simp) rfl ?_
  simp -dsimp -implicitDefEqProofs
  refine call_cur (l01Below_c code 9 (boatP1 code p) p1 (by omega) (by omega)) (by simp [boatP1]) (by simp) rfl (by simp [freshO]) ?_
  simp -dsimp -implicitDefEqProofs
  refine ⟨by unfold inI; omega, ?_⟩
  refine call_cur (l01Below_c code 30 (boatP2 code p) p2 (by omega) (by omega)) (by simp [boatP2]) (by simp) rfl (by simp [freshO]) ?_
  simp -dsimp -implicitDefEqProofs
  refine ⟨by unfold inI; omega, ?_⟩
  refine call_cur (l01Below_c code 12 (boatP3 code p) p3 (by omega) (by omega)) (by simp [boatP3]) (by simp) rfl (by simp [freshO]) ?_
  simp -dsimp -implicitDefEqProofs
  refine ⟨by unfold inI; omega, ?_⟩
  refine call_cur (l01Below_c code 3 (boatP4 code p) p4 (by omega) (by omega)) (by simp [boatP4]) (by simp) rfl (by simp [freshO]) ?_
  simp -dsimp -implicitDefEqProofs
  simp [boatN, boatV]
def eoB (r : List Boat) : List C := [.ow 6 (r.map Boat.enc)]
def addLast (rows : List (List Boat)) (b : Boat) : List (List Boat) := rows.set (rows.length - 1) (rows[rows.length - 1]?.getD [] ++ [b])
def trainTo (code : List UInt8) (id : Int) (p : Nat × Int) : Nat → (Nat × Int) × List (List Boat)
  | 0 => (p, [])
  | k + 1 =>
    let q := trainTo code id p k
    if k = 0 then (boatN code q.1, q.2 ++ [[boatV code (id + k) q.1]])
    else (belowN code 2 (boatN code q.1), if onceV code 2 (boatN code q.1) then addLast q.2 (boatV code (id + k) q.1) else q.2 ++ [[boatV code (id + k) q.1]])
theorem trainTo_ok {code : List UInt8} {id : Int} {p : Nat × Int} (h : p.1 ≤ code.length) : ∀ k : Nat, (trainTo code id p k).1.1 ≤ code.length
  | 0 => h
  | k + 1 => by
    have ih := trainTo_ok (id := id) h k
    simp only [trainTo]
    split
    · exact boatN_ok ih
    · exact belowN_ok (boatN_ok ih)
theorem trainTo_len {code : List UInt8} {id : Int} {p : Nat × Int} : ∀ k : Nat, (trainTo code id p k).2.length ≤ k ∧ (1 ≤ k → 1 ≤ (trainTo code id p k).2.length)
  | 0 => by simp [trainTo]
  | k + 1 => by
    have ih := trainTo_len (code := code) (id := id) (p := p) k
    simp only [trainTo]
    split
    · simp; omega
    · simp only []
      split
      · simp [addLast]; omega
      · simp; omega
theorem trainTo_row {code : List UInt8} {id : Int} {p : Nat × Int} : ∀ k : Nat, ∀ r ∈ (trainTo code id p k).2, r.length ≤ k ∧ 1 ≤ r.length
  | 0, r, h => by simp [trainTo] at h
  | k + 1, r, h => by
    have ih := trainTo_row (code := code) (id := id) (p := p) k
    simp only [trainTo] at h
    split at h
    · rcases List.mem_append.1 h with h | h
      · have := ih r h; omega
      · simp at h; subst h; simp
    · simp only [] at h
      split at h
      · unfold addLast at h
        rcases List.mem_or_eq_of_mem_set h with h | rfl
        · have := ih r h; omega
        · cases hr : (trainTo code id p k).2[(trainTo code id p k).2.length - 1]? with
          | none => simp
          | some r0 => have := ih r0 (List.mem_of_getElem? hr); simp; omega
      · rcases List.mem_append.1 h with h | h
        · have := ih r h; omega
        · simp at h; subst h; simp
theorem setAt_last {rows : List (List Boat)} {z : Nat} {r0 : List Boat} {b : Boat} (h : rows[z]? = some r0) : setAt (setAt (rows.map eoB) z 0 .jk) z 0 (.ow 6 (r0.map Boat.enc ++ [b.enc])) = (rows.set z (r0 ++ [b])).map eoB := by
  have hlt := (List.getElem?_eq_some_iff.1 h).1
  have e1 : (rows.map eoB).getD z [] = eoB r0 := by simp [List.getD, h]
  have e2 : ((rows.map eoB).set z [C.jk]).getD z [] = [C.jk] := by simp [List.getD, hlt]
  have e3 : setAt (rows.map eoB) z 0 .jk = (rows.map eoB).set z [C.jk] := by unfold setAt; rw [e1]; rfl
  rw [e3]
  unfold setAt
  rw [e2, List.set_set, List.map_set]
  simp [eoB]
def trainK (code : List UInt8) (p : Nat × Int) : Nat := (1 + belowV code 4 (belowN code 2 p)).toNat
def trainN (code : List UInt8) (id : Int) (p : Nat × Int) : Nat × Int := (trainTo code id (belowN code 4 (belowN code 2 p)) (trainK code p)).1
def trainV (code : List UInt8) (id : Int) (p : Nat × Int) : Train := ⟨onceV code 2 p, (trainTo code id (belowN code 4 (belowN code 2 p)) (trainK code p)).2⟩
theorem trainK_eq (code : List UInt8) (p : Nat × Int) : (trainK code p : Int) = 1 + belowV code 4 (belowN code 2 p) ∧ 1 ≤ trainK code p ∧ trainK code p ≤ 4 := by
  have h := belowV_rng (code := code) (n := 4) (p := belowN code 2 p) (by omega)
  unfold trainK; omega
set_option maxRecDepth 4000 in
theorem l04Train_c (code : List UInt8) (id : Int) (p : Nat × Int) (hp : p.1 ≤ code.length) (hid : 0 ≤ id ∧ id ≤ 1000000) : CurF Try.prog n_spec_l04Train (curC code p) (curC code (trainN code id p)) [.c (.i id)] (.agg [.c (.b (trainV code id p).Up), .c (.ot 1 ((trainV code id p).Rows.map eoB))]) := by
  refine cur_of h_spec_l04Train (by simp) fun hwf hwf2 => ?_
  have hK := trainK_eq code p
  simp -dsimp -implicitDefEqProofs [c_spec_l04Train]
  refine call_cur (l01Once_c code 2 p hp (by omega) (by omega)) (by simp ) (by simp) rfl (by simp [freshO]) ?_
  simp -dsimp -implicitDefEqProofs
  refine call_cur (l01Below_c code 4 (belowN code 2 p) (belowN_ok hp) (by omega) (by omega)) (by simp ) (by simp) rfl (by simp [freshO]) ?_
  simp -dsimp -implicitDefEqProofs
  refine ⟨by unfold inI; omega, ?_⟩
  have hp0 : (belowN code 4 (belowN code 2 p)).1 ≤ code.length := belowN_ok (belowN_ok hp)
  rw [← hK.1]
  have eN : trainN code id p = (trainTo code id (belowN code 4 (belowN code 2 p)) (trainK code p)).1 := rfl
  have eV : (trainV code id p).Rows = (trainTo code id (belowN code 4 (belowN code 2 p)) (trainK code p)).2 := rfl
  have eU : (trainV code id p).Up = onceV code 2 p := rfl
  rw [eN, eV, eU]
  generalize trainK code p = n at *
  generalize belowN code 4 (belowN code 2 p) = p0 at *
  generalize onceV code 2 p = up at *
  refine loop_rule (ι := Nat × Nat) (fun q => q.1 ≤ n) (fun q => if q.1 = 0 then stOf [(0, .box 0 0), (1000000, .box 0 0), (1, .c (.i id)), (4, .box 4 0), (5, .box 5 0), (6, .c (.i n)), (7, .c (.i 0))] [(0, .box ((curC code p0).map .c)), (4, .box [.c (.b false), .nil 1]), (5, .box [.c (.b up), .nil 1])]
    else stOf [(0, .box 0 0), (1000000, .box 0 0), (1, .c (.i id)), (4, .box 4 0), (5, .box 5 0), (6, .c (.i n)), (7, .c (.i q.1))] [(0, .box ((curC code (trainTo code id p0 q.1).1).map .c)), (4, .box [.c (.b false), .nil 1]), (5, .box [.c (.b up), .own 54 1 (trainTo code id p0 q.1).2.length]), (54, .tr 1 q.2 ((trainTo code id p0 q.1).2.map eoB))]) (fun q => n - q.1) (0, 0) (by simp) (by rw [if_pos rfl]; apply le_of <;> simp [AV.refs1, AV.ref0, Obj.refs1]) ?_
  rintro ⟨k, ver⟩ hk
  simp only at hk
  rcases Nat.eq_zero_or_pos k with e | hk0
  · subst e
    have hn0 : ((0 : Int) < (n : Int)) = True := by simp; omega
    have hn0' : (0 < n) = True := by simp; omega
    rw [if_pos rfl]
    have hs1 : trainTo code id p0 1 = (boatN code p0, [[boatV code id p0]]) := by simp [trainTo]
    simp -dsimp -implicitDefEqProofs [hn0, hn0']
    refine ⟨by unfold inI; omega, ?_⟩
    refine call_cur (l04Boat_c code id p0 hp0) (by simp ) (by simp) rfl (by simp [freshO]) ?_
    simp -dsimp -implicitDefEqProofs
    refine ⟨by unfold inI; omega, 1, by omega, by omega, 0, ?_⟩
    rw [if_neg (by simp)]
    apply le_of <;> simp [AV.refs1, AV.ref0, Obj.refs1, hs1, eoB]
  · have hne : (k = 0) = False := by simp; omega
    simp only [hne, if_false]
    have hq := trainTo_ok (id := id) hp0 k
    have hln := trainTo_len (code := code) (id := id) (p := p0) k
    have hrow := trainTo_row (code := code) (id := id) (p := p0) k
    have hsuc : trainTo code id p0 (k + 1) = (belowN code 2 (boatN code (trainTo code id p0 k).1), if onceV code 2 (boatN code (trainTo code id p0 k).1) then addLast (trainTo code id p0 k).2 (boatV code (id + k) (trainTo code id p0 k).1) else (trainTo code id p0 k).2 ++ [[boatV code (id + k) (trainTo code id p0 k).1]]) := by
      simp only [trainTo, hne, if_false]
    generalize hQ : trainTo code id p0 k = Q at *
    obtain ⟨q, rows⟩ := Q
    simp only at hq hln hsuc hrow ⊢
    rcases Nat.lt_or_ge k n with hlt | hge
    · simp -dsimp -implicitDefEqProofs [lt_t hlt, hlt]
      refine ⟨by unfold inI; omega, ?_⟩
      refine call_cur (l04Boat_c code (id + k) q hq) (by simp ) (by simp) rfl (by simp [freshO]) ?_
      simp -dsimp -implicitDefEqProofs
      refine ⟨fun _ => ?_, fun h => by omega⟩
      refine call_cur (l01Once_c code 2 (boatN code q) (boatN_ok hq) (by omega) (by omega)) (by simp ) (by simp) rfl (by simp [freshO]) ?_
      generalize boatV code (id + k) q = b at *
      have hr1 := hln.2 (by omega)
      cases ho : onceV code 2 (boatN code q) with
      | false =>
        rw [ho] at hsuc
        simp -dsimp -implicitDefEqProofs
        have hl := hln.1
        refine ⟨by omega, by unfold inI; omega, k + 1, hlt, by omega, 0, ?_⟩
        rw [if_neg (by omega)]
        apply le_of <;> simp [AV.refs1, AV.ref0, Obj.refs1, hsuc, eoB]
      | true =>
        rw [ho] at hsuc
        obtain ⟨r0, hr0⟩ : ∃ r, rows[rows.length - 1]? = some r := ⟨_, List.getElem?_eq_getElem (by omega)⟩
        have g0 := (List.getElem?_eq_some_iff.1 hr0).2
        have hadd : addLast rows b = rows.set (rows.length - 1) (r0 ++ [b]) := by simp [addLast, hr0]
        have hl := hln.1
        have ez : ((rows.length : Int) - 1) = ((rows.length - 1 : Nat) : Int) := by omega
        have m1 : rows.length - 1 < rows.length := by omega
        obtain ⟨z, hz⟩ : ∃ z, z = rows.length - 1 := ⟨_, rfl⟩
        rw [← hz] at hr0 hadd ez m1
        have hrl := hrow r0 (List.mem_of_getElem? hr0)
        have g0 := (List.getElem?_eq_some_iff.1 hr0).2
        have hset := setAt_last (b := b) hr0
        have hjl : (setAt (rows.map eoB) z 0 C.jk).length = rows.length := by simp [setAt]
        have htk : (r0.map Boat.enc ++ [b.enc]).take (r0.length + 1) = r0.map Boat.enc ++ [b.enc] := List.take_of_length_le (by simp)
        simp only [Boat.enc] at htk hset
        simp -dsimp -implicitDefEqProofs [ez, hr0, m1, eoB, g0, hjl, htk]
        refine fun _ => ⟨by unfold inI; omega, fun _ => ⟨by unfold inI; omega, by omega, by unfold inI; omega, k + 1, hlt, by omega, ver + 2, ?_⟩⟩
        rw [if_neg (by omega)]
        apply le_of <;> simp [AV.refs1, AV.ref0, Obj.refs1, hsuc, hadd, g0, htk, hset]
    · have : k = n := by omega
      subst this
      simp -dsimp -implicitDefEqProofs
      rw [hQ, List.take_of_length_le (by simp)]
      exact ⟨rfl, rfl⟩
theorem addLast_flat {rows : List (List Boat)} {b : Boat} (h : 1 ≤ rows.length) : (addLast rows b).flatten = rows.flatten ++ [b] := by
  rcases List.eq_nil_or_concat rows with e | ⟨l, r, e⟩
  · subst e; simp at h
  · rw [List.concat_eq_append] at e
    subst e
    simp [addLast]
theorem trainTo_flat {code : List UInt8} {id : Int} {p : Nat × Int} (k : Nat) : (trainTo code id p (k + 1)).2.flatten = (trainTo code id p k).2.flatten ++ [boatV code (id + k) (trainTo code id p k).1] := by
  have ih := trainTo_len (code := code) (id := id) (p := p) k
  simp only [trainTo]
  split
  · simp
  · simp only []
    split
    · rw [addLast_flat (by omega)]
    · simp
theorem trainTo_ids {code : List UInt8} {id : Int} {p : Nat × Int} : ∀ k : Nat, (trainTo code id p k).2.flatten.map idOf = (List.range k).map fun i : Nat => id + (i : Int)
  | 0 => rfl
  | k + 1 => by
    rw [trainTo_flat, List.map_append, trainTo_ids k, List.range_succ, List.map_append]
    rfl
theorem lens4_rng {x : Int} (h : x ∈ lens4) : 1 ≤ x ∧ x ≤ 200 := by
  simp [lens4] at h; omega
theorem boatV_ok {code : List UInt8} {id : Int} {p : Nat × Int} (h : 1 ≤ id ∧ id ≤ 9999) : BoatOk (boatV code id p) = true := by
  have h1 := lens4_rng (pickV_mem (code := code) (l := lens4) (p := p) (by simp [lens4]))
  have h2 := belowV_rng (code := code) (n := 9) (p := boatP1 code p) (by omega)
  have h3 := belowV_rng (code := code) (n := 30) (p := boatP2 code p) (by omega)
  have h4 := belowV_rng (code := code) (n := 12) (p := boatP3 code p) (by omega)
  have h5 := belowV_rng (code := code) (n := 3) (p := boatP4 code p) (by omega)
  simp only [BoatOk, boatV, Bool.and_eq_true]
  exact ⟨⟨⟨⟨⟨inRange_iff.2 h, inRange_iff.2 h1⟩, inRange_iff.2 ⟨by omega, by omega⟩⟩, inRange_iff.2 ⟨by omega, by omega⟩⟩, inRange_iff.2 ⟨by omega, by omega⟩⟩, inRange_iff.2 ⟨by omega, by omega⟩⟩
theorem trainTo_all {code : List UInt8} {id : Int} {p : Nat × Int} : ∀ k : Nat, 1 ≤ id → id + k ≤ 9999 → ∀ b ∈ (trainTo code id p k).2.flatten, BoatOk b = true
  | 0, _, _, b, h => by simp [trainTo] at h
  | k + 1, h1, h2, b, h => by
    rw [trainTo_flat] at h
    rcases List.mem_append.1 h with h | h
    · exact trainTo_all k h1 (by omega) b h
    · simp only [List.mem_singleton] at h
      subst h
      exact boatV_ok ⟨by omega, by omega⟩
theorem trainV_ok {code : List UInt8} {id : Int} {p : Nat × Int} (h : 1 ≤ id ∧ id ≤ 9000) : TrainOk (trainV code id p) = true := by
  obtain ⟨_, k1, k4⟩ := trainK_eq code p
  have hb : (trainV code id p).boats = (trainTo code id (belowN code 4 (belowN code 2 p)) (trainK code p)).2.flatten := rfl
  have hr : (trainV code id p).Rows = (trainTo code id (belowN code 4 (belowN code 2 p)) (trainK code p)).2 := rfl
  simp only [TrainOk, Bool.and_eq_true, List.all_eq_true, decide_eq_true_eq]
  have hids := trainTo_ids (code := code) (id := id) (p := belowN code 4 (belowN code 2 p)) (trainK code p)
  have hlen := congrArg List.length hids
  simp only [List.length_map, List.length_range] at hlen
  rw [hb, hr]
  refine ⟨⟨⟨fun r hr => full_iff.2 ?_, trainTo_all _ (by omega) (by omega)⟩, ?_⟩, inRange_iff.2 ?_⟩
  · have := trainTo_row _ r hr; omega
  · rw [hids]
    refine List.Pairwise.map _ ?_ List.nodup_range
    intro a b h e
    exact h (by omega)
  · rw [hlen]; omega
theorem trainV_small {code : List UInt8} {id : Int} {p : Nat × Int} : (trainV code id p).small := by
  obtain ⟨_, k1, k4⟩ := trainK_eq code p
  have h1 := trainTo_len (code := code) (id := id) (p := belowN code 4 (belowN code 2 p)) (trainK code p)
  refine ⟨by simp only [trainV]; omega, fun r hr => ⟨?_, fun _ _ => trivial⟩⟩
  have := trainTo_row _ r hr
  omega
theorem shrs_map {α : Type} {f g : α → List C} (h : ∀ x, shrl (f x) = some (g x)) : ∀ (l : List α), shrs (l.map f) = some (l.map g)
  | [] => rfl
  | x :: l => by simp [shrs, h x, shrs_map h l]
theorem cshr_ot {α : Type} {f g : α → List C} {k : Nat} (h : ∀ x, shrl (f x) = some (g x)) (l : List α) : (C.ot k (l.map f)).shr = some (.sl k (l.map g)) := by simp [C.shr, shrs_map h l]
def eo_BoatS (xs : List Boat) : List C := [.ow 6 (xs.map Boat.enc)]
theorem eo_BoatS_shr (xs : List Boat) : shrl (eo_BoatS xs) = some (enc_BoatS xs) := rfl
@[simp] def Train.oenc (e : Train) : List C := [.b e.Up, .ot 1 (e.Rows.map eo_BoatS)]
section
variable {α : Type} {f : Int → α → List C} {g : α → List C} {n : α → Nat} {k : Int} {xs : List α} {i : Nat} {x : α}
end
def ptOk (p : Point) : Bool := inRange p.X 0 1000000000 && inRange p.Y 0 1000000000
/-- Point b may follow point a. -/
def follows (a b : Point) : Bool := decide (a.X < b.X) && decide (a.Y ≤ b.Y)
def stepOk (l : List Point) (k : Nat) : Bool :=
  match l[k]? with
  | some p => ptOk p && (match k with
    | 0 => true
    | j + 1 => match l[j]? with
      | some q => follows q p
      | none => false)
  | none => true
def upTo (l : List Point) : Nat → Bool
  | 0 => true
  | k + 1 => upTo l k && stepOk l k
def TableOk (l : List Point) : Bool := upTo l l.length && inRange l.length 2 20
theorem step_zero {l : List Point} {p : Point} (h : l[0]? = some p) : stepOk l 0 = ptOk p := by simp [stepOk, h]
theorem step_succ {l : List Point} {k : Nat} {p q : Point} (h : l[k + 1]? = some p) (hq : l[k]? = some q) : stepOk l (k + 1) = (ptOk p && follows q p) := by simp [stepOk, h, hq]
theorem upTo_false {l : List Point} : ∀ {k n : Nat}, k < n → stepOk l k = false → upTo l n = false
  | k, 0, h, _ => by omega
  | k, n + 1, h, hs => by
    simp only [upTo]
    rcases Nat.lt_or_ge k n with h1 | h1
    · rw [upTo_false h1 hs]; rfl
    · have : k = n := by omega
      subst this
      rw [hs, Bool.and_false]
theorem upTo_next {l : List Point} {k : Nat} (h : upTo l k = true) (hs : stepOk l k = true) : upTo l (k + 1) = true := by simp [upTo, h, hs]
theorem tb_step {l : List Point} {k : Nat} (h : k < l.length) (hs : stepOk l k = false) : TableOk l = false := by simp [TableOk, upTo_false h hs]
theorem tb_len {l : List Point} (h : inRange l.length 2 20 = false) : TableOk l = false := by simp [TableOk, h]
theorem TableOk_impl (l : List Point) : PureF Try.prog n_impl_TableOk [.c (.sl 2 (l.map Point.enc))] (.c (.b (TableOk l))) := by
  refine pure_of h_impl_TableOk (by simp) fun hwf => ?_
  simp -dsimp -implicitDefEqProofs [c_impl_TableOk]
  intro hlen
  refine ⟨fun h0 _ => ⟨fun h1 => ?_, fun h1 _ => ?_⟩, fun h0 => ?_⟩
  · exact tb_len (inRange_not.2 (by omega))
  · refine loop_rule (ι := Nat) (fun k => k ≤ l.length ∧ upTo l k = true) (fun k => stOf [(0, .c (.sl 2 (l.map Point.enc))), (13, .c (.sl 2 (l.map Point.enc))), (14, .c (.i l.length)), (15, .c (.i k))] []) (fun k => l.length - k) 0 ⟨by simp, rfl⟩ (by apply le_of <;> simp [AV.refs1, AV.ref0, Obj.refs1]) ?_
    rintro k ⟨hk, hup⟩
    rcases Nat.lt_or_ge k l.length with hlt | hge
    · obtain ⟨p, hp⟩ : ∃ p, l[k]? = some p := ⟨_, List.getElem?_eq_getElem hlt⟩
      have hbad : ptOk p = false → TableOk l = false := fun e => tb_step hlt (by
        cases k with
        | zero => rw [step_zero hp, e]
        | succ j => rw [step_succ hp (List.getElem?_eq_getElem (by omega)), e, Bool.false_and])
      cases k with
      | zero =>
        have f1 := (List.getElem?_eq_some_iff.1 hp).2
        simp -dsimp -implicitDefEqProofs [hp, hlt, f1]
        refine call_lend (inRange_impl p.X 0 1000000000) (by simp) rfl ?_
        simp -dsimp -implicitDefEqProofs
        refine ⟨fun h2 => ?_, fun h2 => hbad (by simp [ptOk, h2])⟩
        refine call_lend (inRange_impl p.Y 0 1000000000) (by simp) rfl ?_
        simp -dsimp -implicitDefEqProofs
        refine ⟨fun h3 => hbad (by simp [ptOk, h3]), fun h3 => ?_⟩
        have hpt : ptOk p = true := by simp [ptOk, h2, h3]
        exact ⟨by unfold inI; omega, 1, ⟨hlt, upTo_next hup (by rw [step_zero hp, hpt])⟩, by omega, by apply le_of <;> simp [AV.refs1, AV.ref0, Obj.refs1]⟩
      | succ j =>
        obtain ⟨q, hq⟩ : ∃ q, l[j]? = some q := ⟨_, List.getElem?_eq_getElem (by omega)⟩
        have hj : (j : Int) + 1 < l.length := by omega
        have hj2 : (j : Int) < l.length := by omega
        have hj3 : (0 : Int) < j + 1 := by omega
        have hj4 : (0 : Int) ≤ j + 1 := by omega
        have hj5 : ((j : Int) + 1).toNat = j + 1 := by omega
        simp -dsimp -implicitDefEqProofs [hp, hq, hj, hj2, hj3, hj4, hj5]
        refine call_lend (inRange_impl p.X 0 1000000000) (by simp) rfl ?_
        simp -dsimp -implicitDefEqProofs
        refine ⟨fun h2 => ?_, fun h2 => hbad (by simp [ptOk, h2])⟩
        refine call_lend (inRange_impl p.Y 0 1000000000) (by simp) rfl ?_
        simp -dsimp -implicitDefEqProofs [hp, hq, hj, hj2, hj3, hj4, hj5]
        refine ⟨fun h3 => hbad (by simp [ptOk, h3]), fun h3 => ?_⟩
        have hpt : ptOk p = true := by simp [ptOk, h2, h3]
        have hbad2 : follows q p = false → TableOk l = false := fun e => tb_step hlt (by rw [step_succ hp hq, e, Bool.and_false])
        refine ⟨by unfold inI; omega, fun h4 => ⟨by unfold inI; omega, fun h5 => ?_, fun h5 => ?_⟩, fun h4 => ?_⟩
        · exact hbad2 (by simp [follows]; omega)
        · have hf : follows q p = true := by simp [follows, h4, h5]
          exact ⟨by unfold inI; omega, j + 2, ⟨hlt, upTo_next hup (by rw [step_succ hp hq, hpt, hf]; rfl)⟩, by omega, by apply le_of <;> simp [AV.refs1, AV.ref0, Obj.refs1]; omega⟩
        · exact hbad2 (by simp [follows]; omega)
    · simp -dsimp -implicitDefEqProofs [lt_f hge]
      have e : k = l.length := by omega
      subst e
      have h7 : inRange l.length 2 20 = true := inRange_iff.2 (by omega)
      simp [TableOk, hup, h7]
  · exact tb_len (inRange_not.2 (by omega))
end Go.Proofs.Ytpglolegeidfoaa
