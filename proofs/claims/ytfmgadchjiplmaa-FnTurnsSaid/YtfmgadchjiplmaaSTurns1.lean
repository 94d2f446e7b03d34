/- What the law FnTurns stands on, part 1: contracts of functions, what each answers as plain Lean. -/
import Derived.Test.YtfmgadchjiplmaaMA3
import Derived.Test.YtfmgadchjiplmaaProg
import Derived.KernelRfl
import Derived.Test.YtfmgadchjiplmaaMA4
import Derived.Test.YtfmgadchjiplmaaMA8
import Derived.Test.YtfmgadchjiplmaaMA6
import Derived.Test.YtfmgadchjiplmaaMA7
import Derived.Test.YtfmgadchjiplmaaMA9
import Derived.Test.YtfmgadchjiplmaaMA5
import Derived.Test.YtfmgadchjiplmaaMHead
set_option linter.all false
namespace Go.Proofs.Ytfmgadchjiplmaa
open Go.RowKit

abbrev kI (n : Int) : X := .k (.c (.i n))
abbrev kB (b : Bool) : X := .k (.c (.b b))
abbrev iv (d n : Nat) : Ins := ⟨none, some d, .mv (.t n)⟩
abbrev ia (d : Nat) (o : IOp) : Ins := ⟨none, some d, o⟩
abbrev ig (t : Nat) (b : Bool) (d : Nat) (o : IOp) : Ins := ⟨some (t, b), some d, o⟩
abbrev ie (o : IOp) : Ins := ⟨none, none, o⟩
abbrev n_impl_inRange : Nat := 120
abbrev n_laws_big : Nat := 48
abbrev n_spec_l01New : Nat := 123
abbrev n_spec_l01Below : Nat := 124
abbrev n_spec_l01Byte : Nat := 196
abbrev n_impl_TrainOk : Nat := 131
abbrev n_impl_BoatOk : Nat := 201
abbrev n_slices_Contains___int_int_ : Nat := 202
abbrev n_slices_Index___int_int_ : Nat := 229
abbrev n_impl_boatsOf : Nat := 205
abbrev n_laws_FnTurns : Nat := 8
abbrev n_spec_DrawCalls : Nat := 49
abbrev n_impl_NextSide : Nat := 50
abbrev n_laws_btoi : Nat := 51
abbrev n_impl_NoteTurn : Nat := 52
abbrev n_impl_TurnOk : Nat := 53
abbrev n_impl_OrderCalls : Nat := 99
abbrev n_spec_l06Call : Nat := 125
abbrev n_impl_ClassOf : Nat := 150
abbrev n_spec_l04Train : Nat := 151
abbrev n_impl_IdsOf : Nat := 155
abbrev n_impl_RankOf : Nat := 166
abbrev n_slices_SortStableFunc___int_int_ : Nat := 167
abbrev n_impl_OrderCalls_1 : Nat := 168
abbrev n_impl_ComesBefore : Nat := 169
abbrev n_impl_CallOk : Nat := 186
abbrev n_spec_l01PickInt : Nat := 197
abbrev n_spec_l01Once : Nat := 214
abbrev n_spec_l04Boat : Nat := 215
abbrev n_slices_stableCmpFunc_int_ : Nat := 218
abbrev n_slices_insertionSortCmpFunc_int_ : Nat := 234
abbrev n_slices_symMergeCmpFunc_int_ : Nat := 235
def c_impl_inRange : SC := .seq (.reg [ia 6 (.mv (kB false))]) (.seq (.reg [iv 7 0,iv 8 1,ia 9 (.bin .geq (.t 7) (.t 8)),iv 10 9,ig 10 true 11 (.mv (.t 0)),ig 10 true 12 (.mv (.t 2)),ig 10 true 13 (.bin .leq (.t 11) (.t 12)),ia 14 (.pick (.t 10) (.t 13) (kB false)),iv 6 14]) (.ret))
theorem h_impl_inRange : Has Try.prog n_impl_inRange 15 c_impl_inRange [.t 6] := ⟨by decide, Try.f120, _, Try.func120, rfl, rfl, ⟨false, by kernel_rfl⟩, by kernel_rfl⟩
def c_laws_big : SC := .seq (.reg [ia 2 (.mv (kB false))]) (.seq (.reg [iv 3 0,ia 4 (.len (.t 3)),ia 5 (.bin .gtr (.t 4) (kI 1048576)),iv 2 5]) (.ret))
theorem h_laws_big : Has Try.prog n_laws_big 6 c_laws_big [.t 2] := ⟨by decide, Try.f48, _, Try.func48, rfl, rfl, ⟨false, by kernel_rfl⟩, by kernel_rfl⟩
def inRange (n a b : Int) : Bool := decide (a ≤ n) && decide (n ≤ b)
theorem inRange_impl (n a b : Int) : PureF Try.prog n_impl_inRange [.c (.i n), .c (.i a), .c (.i b)] (.c (.b (inRange n a b))) := by
  refine pure_of h_impl_inRange (by simp) fun hwf => ?_
  simp -dsimp -implicitDefEqProofs [c_impl_inRange, inRange]
  exact ⟨fun h => by simp [h], fun h => by simp [Int.not_le.2 h]⟩
structure Entry where
  From : Int
  To : Int
  Amount : Int
  Time : Int
  Why : Int
  deriving Inhabited, DecidableEq
@[simp] def Entry.enc (e : Entry) : List C := [.i e.From, .i e.To, .i e.Amount, .i e.Time, .i e.Why]
theorem all_take_succ {α : Type} {p : α → Bool} {l : List α} {k : Nat} {e : α} (he : l[k]? = some e) (h : ∀ x ∈ l.take k, p x = true) (hp : p e = true) : ∀ x ∈ l.take (k + 1), p x = true := by
  intro x hx
  rw [List.take_succ_eq_append_getElem (List.getElem?_eq_some_iff.1 he).1] at hx
  rcases List.mem_append.1 hx with h1 | h1
  · exact h x h1
  · rw [List.mem_singleton] at h1
    have := (List.getElem?_eq_some_iff.1 he).2
    rw [h1, this]; exact hp
theorem all_of_take {α : Type} {p : α → Bool} {l : List α} {k : Nat} (hk : l.length ≤ k) (h : ∀ x ∈ l.take k, p x = true) : l.all p = true := by
  rw [List.take_of_length_le hk] at h
  exact List.all_eq_true.2 h
theorem all_false {α : Type} {p : α → Bool} {l : List α} {k : Nat} {e : α} (he : l[k]? = some e) (hp : p e = false) : l.all p = false := by
  rw [List.all_eq_false]
  exact ⟨e, List.mem_of_getElem? he, by simp [hp]⟩
theorem lt_t {k n : Nat} (h : k < n) : ((k : Int) < (n : Int)) = True := by simp [h]
theorem lt_f {k n : Nat} (h : n ≤ k) : ((k : Int) < (n : Int)) = False := by simp [h]
structure Way where
  Long : Int
  Bed : Int
  deriving DecidableEq, Inhabited
@[simp] def Way.enc (e : Way) : List C := [.i e.Long, .i e.Bed]
theorem inI_succ {k n : Nat} (hk : k < n) (h : n ≤ maxLen) : inI ((k : Int) + 1) := by unfold maxLen at h; unfold inI; omega
abbrev ienc (n : Int) : List C := [.i n]
structure Tariff where
  Base : Int
  PerArea : Int
  PerClass : List Int
  Weights : List Int
  deriving DecidableEq
@[simp] def Tariff.enc (t : Tariff) : List C := [.i t.Base, .i t.PerArea, .sl 1 (t.PerClass.map ienc), .sl 1 (t.Weights.map ienc)]
def Tariff.small (t : Tariff) : Prop := t.PerClass.length ≤ 1048576 ∧ t.Weights.length ≤ 1048576
theorem inRange_iff {n a b : Int} : inRange n a b = true ↔ a ≤ n ∧ n ≤ b := by simp [inRange]
theorem inRange_not {n a b : Int} : inRange n a b = false ↔ n < a ∨ b < n := by
  simp only [inRange, Bool.and_eq_false_iff, decide_eq_false_iff_not]; omega
def c_spec_l01New : SC := .seq (.reg [ia 2 (.mv (.k (.any)))]) (.seq (.reg [iv 5 0,ia 6 (.len (.t 5)),ia 7 (.bin .add (kI 33173) (.t 6)),iv 3 7]) (.seq (.seq (.reg [ia 4 (.mv (kI 0))]) (.block 0 (.loop (.seq (.seq (.reg [iv 8 4,iv 9 0,ia 10 (.len (.t 9)),ia 11 (.bin .lss (.t 8) (.t 10)),iv 12 11,ig 12 true 13 (.mv (.t 4)),ig 12 true 14 (.bin .lss (.t 13) (kI 4000)),ia 15 (.pick (.t 12) (.t 14) (kB false))]) (.cond (.t 15) (.skip) (.exit 0))) (.seq (.block 1 (.reg [iv 18 3,ia 19 (.bin .mul (.t 18) (kI 131)),iv 20 0,iv 21 4,ia 22 (.idx 1 (.t 20) (.t 21)),ia 23 (.ld1 (.t 22)),ia 24 (.cvt 0 (.t 23)),ia 25 (.bin .add (.t 19) (.t 24)),ia 26 (.bin .add (.t 25) (kI 7)),ia 27 (.bit .and (.t 26) (kI 1073741823)),iv 3 27])) (.reg [iv 16 4,ia 17 (.bin .add (.t 16) (kI 1)),iv 4 17])))))) (.seq (.reg [iv 28 0,iv 29 3,ia 30 (.bld [.nil 1,.c (.i 0),.c (.i 0)] [(0,1,.t 28),(2,1,.t 29)]),ia 31 (.box 3 (.t 30)),iv 2 31]) (.ret))))
theorem h_spec_l01New : Has Try.prog n_spec_l01New 32 c_spec_l01New [.t 2] := ⟨by decide, Try.f123, _, Try.func123, rfl, rfl, ⟨false, by kernel_rfl⟩, by kernel_rfl⟩
def c_spec_l01Below : SC := .seq (.reg [ia 4 (.mv (kI 0))]) (.seq (.seq (.reg [iv 9 1,ia 10 (.bin .leq (.t 9) (kI 0))]) (.cond (.t 10) (.seq (.reg [ia 4 (.mv (kI 0))]) (.ret)) (.skip))) (.seq (.seq (.reg [iv 11 1,ia 12 (.bin .leq (.t 11) (kI 256))]) (.cond (.t 12) (.seq (.reg [iv 13 0,ia 14 (.call n_spec_l01Byte [.t 13]),iv 15 1,ia 16 (.bin .rem (.t 14) (.t 15)),iv 4 16]) (.ret)) (.skip))) (.seq (.reg [iv 17 0,ia 18 (.call n_spec_l01Byte [.t 17]),iv 5 18]) (.seq (.reg [iv 19 0,ia 20 (.call n_spec_l01Byte [.t 19]),iv 6 20]) (.seq (.reg [iv 21 0,ia 22 (.call n_spec_l01Byte [.t 21]),iv 7 22]) (.seq (.reg [iv 23 0,ia 24 (.call n_spec_l01Byte [.t 23]),iv 8 24]) (.seq (.reg [iv 25 5,ia 26 (.bin .mul (.t 25) (kI 16777216)),iv 27 6,ia 28 (.bin .mul (.t 27) (kI 65536)),ia 29 (.bin .add (.t 26) (.t 28)),iv 30 7,ia 31 (.bin .mul (.t 30) (kI 256)),ia 32 (.bin .add (.t 29) (.t 31)),iv 33 8,ia 34 (.bin .add (.t 32) (.t 33)),iv 35 1,ia 36 (.bin .rem (.t 34) (.t 35)),iv 4 36]) (.ret))))))))
theorem h_spec_l01Below : Has Try.prog n_spec_l01Below 37 c_spec_l01Below [.t 4] := ⟨by decide, Try.f124, _, Try.func124, rfl, rfl, ⟨false, by kernel_rfl⟩, by kernel_rfl⟩
def c_spec_l01Byte : SC := .seq (.reg [ia 2 (.mv (kI 0))]) (.seq (.reg [iv 4 0,iv 5 0,ia 6 (.nck (.t 5)),ia 7 (.fld 2 (.t 6)),ia 8 (.ld1 (.t 7)),ia 9 (.binw .mul (.t 8) (kI 6364136223846793005)),ia 10 (.binw .add (.t 9) (kI 1442695040888963407)),ia 11 (.nck (.t 4)),ia 12 (.fld 2 (.t 11)),ie (.st1 (.t 12) (.t 10))]) (.seq (.regq [iv 13 0,ia 14 (.nck (.t 13)),ia 15 (.fld 2 (.t 14)),ia 16 (.ld1 (.t 15)),ia 17 (.bit .shr (.t 16) (kI 33)),iv 18 0,ia 19 (.nck (.t 18)),ia 20 (.fld 2 (.t 19)),ia 21 (.ld1 (.t 20)),ia 22 (.bit .shr (.t 21) (kI 45)),ia 23 (.bit .xor (.t 17) (.t 22)),ia 24 (.bit .and (.t 23) (kI 255)),iv 3 24]) (.seq (.seq (.regq [iv 25 0,ia 26 (.nck (.t 25)),ia 27 (.fld 1 (.t 26)),ia 28 (.ld1 (.t 27)),iv 29 0,ia 30 (.nck (.t 29)),ia 31 (.fld 0 (.t 30)),ia 32 (.ld1 (.t 31)),ia 33 (.len (.t 32)),ia 34 (.bin .lss (.t 28) (.t 33))]) (.cond (.t 34) (.seq (.regq [iv 35 3,iv 36 0,ia 37 (.nck (.t 36)),ia 38 (.fld 0 (.t 37)),ia 39 (.ld1 (.t 38)),iv 40 0,ia 41 (.nck (.t 40)),ia 42 (.fld 1 (.t 41)),ia 43 (.ld1 (.t 42)),ia 44 (.idx 1 (.t 39) (.t 43)),ia 45 (.ld1 (.t 44)),ia 46 (.cvt 0 (.t 45)),ia 47 (.bin .add (.t 35) (.t 46)),ia 48 (.bit .and (.t 47) (kI 255)),iv 3 48]) (.reg [iv 49 0,iv 50 0,ia 51 (.nck (.t 50)),ia 52 (.fld 1 (.t 51)),ia 53 (.ld1 (.t 52)),ia 54 (.bin .add (.t 53) (kI 1)),ia 55 (.nck (.t 49)),ia 56 (.fld 1 (.t 55)),ie (.st1 (.t 56) (.t 54))])) (.skip))) (.seq (.reg [iv 57 3,iv 2 57]) (.ret)))))
theorem h_spec_l01Byte : Has Try.prog n_spec_l01Byte 58 c_spec_l01Byte [.t 2] := ⟨by decide, Try.f196, _, Try.func196, rfl, rfl, ⟨false, by kernel_rfl⟩, by kernel_rfl⟩
def c_impl_TrainOk : SC := .seq (.reg [ia 1 (.box 2 (.t 0)),ia 2 (.mv (kB false))]) (.seq (.seq (.reg [ia 9 (.fld 1 (.t 1)),ia 10 (.ld1 (.t 9)),ia 11 (.len (.t 10)),ia 12 (.bin .eql (.t 11) (kI 0)),iv 13 12,ig 13 false 14 (.fld 1 (.t 1)),ig 13 false 15 (.ld1 (.t 14)),ig 13 false 16 (.len (.t 15)),ig 13 false 17 (.bin .gtr (.t 16) (kI 6)),ia 18 (.pick (.t 13) (kB true) (.t 17))]) (.cond (.t 18) (.seq (.reg [ia 2 (.mv (kB false))]) (.ret)) (.skip))) (.seq (.reg [ia 3 (.alloca 1 6 [.i 0])]) (.seq (.reg [ia 4 (.mv (kI 0))]) (.seq (.seq (.reg [ia 19 (.fld 1 (.t 1)),ia 20 (.ld1 (.t 19)),ia 21 (.len (.t 20)),ia 22 (.mv (kI 0))]) (.block 0 (.loop (.seq (.reg [ia 23 (.bin .lss (.t 22) (.t 21))]) (.seq (.cond (.t 23) (.skip) (.exit 0)) (.seq (.block 1 (.seq (.reg [ia 24 (.idx 1 (.t 20) (.t 22)),ia 25 (.ld1 (.t 24)),iv 6 25]) (.seq (.seq (.reg [iv 26 6,ia 27 (.len (.t 26)),ia 28 (.bin .eql (.t 27) (kI 0)),iv 29 28,ig 29 false 30 (.mv (.t 4)),ig 29 false 31 (.mv (.t 6)),ig 29 false 32 (.len (.t 31)),ig 29 false 33 (.bin .add (.t 30) (.t 32)),ig 29 false 34 (.bin .gtr (.t 33) (kI 6)),ia 35 (.pick (.t 29) (kB true) (.t 34))]) (.cond (.t 35) (.seq (.reg [ia 2 (.mv (kB false))]) (.ret)) (.skip))) (.seq (.reg [iv 36 6,ia 37 (.len (.t 36)),ia 38 (.mv (kI 0))]) (.block 2 (.loop (.seq (.reg [ia 39 (.bin .lss (.t 38) (.t 37))]) (.seq (.cond (.t 39) (.skip) (.exit 2)) (.seq (.block 3 (.seq (.reg [ia 40 (.idx 6 (.t 36) (.t 38)),ia 41 (.ldn 6 (.t 40)),ia 8 (.alloc [.c (.i 0),.c (.i 0),.c (.i 0),.c (.i 0),.c (.i 0),.c (.i 0)]),ie (.stn 6 (.t 8) (.t 41))]) (.seq (.seq (.regq [ia 42 (.ldn 6 (.t 8)),ia 43 (.call n_impl_BoatOk [.t 42]),ia 44 (.not (.t 43)),iv 45 44,ig 45 false 46 (.mv (.t 4)),ig 45 false 47 (.sla 1 6 (.t 3) (.t 46)),ig 45 false 48 (.fld 0 (.t 8)),ig 45 false 49 (.ld1 (.t 48)),ig 45 false 50 (.call n_slices_Contains___int_int_ [.t 47,.t 49]),ia 51 (.pick (.t 45) (kB true) (.t 50))]) (.cond (.t 51) (.seq (.reg [ia 2 (.mv (kB false))]) (.ret)) (.skip))) (.seq (.reg [iv 52 4,ia 53 (.fld 0 (.t 8)),ia 54 (.ld1 (.t 53)),ia 55 (.ida 1 6 (.t 3) (.t 52)),ie (.st1 (.t 55) (.t 54))]) (.reg [iv 56 4,ia 57 (.bin .add (.t 56) (kI 1)),iv 4 57]))))) (.reg [ia 58 (.bin .add (.t 38) (kI 1)),iv 38 58])))))))))) (.reg [ia 59 (.bin .add (.t 22) (kI 1)),iv 22 59]))))))) (.seq (.reg [ia 2 (.mv (kB true))]) (.ret))))))
theorem h_impl_TrainOk : Has Try.prog n_impl_TrainOk 60 c_impl_TrainOk [.t 2] := ⟨by decide, Try.f131, _, Try.func131, rfl, rfl, ⟨false, by kernel_rfl⟩, by kernel_rfl⟩
def c_impl_BoatOk : SC := .seq (.reg [ia 1 (.box 6 (.t 0)),ia 2 (.mv (kB false))]) (.seq (.reg [ia 3 (.fld 0 (.t 1)),ia 4 (.ld1 (.t 3)),ia 5 (.call n_impl_inRange [.t 4,kI 1,kI 9999]),iv 6 5,ig 6 true 7 (.fld 1 (.t 1)),ig 6 true 8 (.ld1 (.t 7)),ig 6 true 9 (.call n_impl_inRange [.t 8,kI 1,kI 200]),ia 10 (.pick (.t 6) (.t 9) (kB false)),iv 11 10,ig 11 true 12 (.fld 2 (.t 1)),ig 11 true 13 (.ld1 (.t 12)),ig 11 true 14 (.call n_impl_inRange [.t 13,kI 1,kI 30]),ia 15 (.pick (.t 11) (.t 14) (kB false)),iv 16 15,ig 16 true 17 (.fld 3 (.t 1)),ig 16 true 18 (.ld1 (.t 17)),ig 16 true 19 (.call n_impl_inRange [.t 18,kI 1,kI 100]),ia 20 (.pick (.t 16) (.t 19) (kB false)),iv 21 20,ig 21 true 22 (.fld 4 (.t 1)),ig 21 true 23 (.ld1 (.t 22)),ig 21 true 24 (.call n_impl_inRange [.t 23,kI 1,kI 50]),ia 25 (.pick (.t 21) (.t 24) (kB false)),iv 26 25,ig 26 true 27 (.fld 5 (.t 1)),ig 26 true 28 (.ld1 (.t 27)),ig 26 true 29 (.call n_impl_inRange [.t 28,kI 0,kI 2]),ia 30 (.pick (.t 26) (.t 29) (kB false)),iv 2 30]) (.ret))
theorem h_impl_BoatOk : Has Try.prog n_impl_BoatOk 31 c_impl_BoatOk [.t 2] := ⟨by decide, Try.f201, _, Try.func201, rfl, rfl, ⟨false, by kernel_rfl⟩, by kernel_rfl⟩
def c_slices_Contains___int_int_ : SC := .seq (.reg [ia 4 (.mv (kB false))]) (.seq (.reg [iv 5 0,iv 6 1,ia 7 (.call n_slices_Index___int_int_ [.t 5,.t 6]),ia 8 (.bin .geq (.t 7) (kI 0)),iv 4 8]) (.ret))
theorem h_slices_Contains___int_int_ : Has Try.prog n_slices_Contains___int_int_ 9 c_slices_Contains___int_int_ [.t 4] := ⟨by decide, Try.f202, _, Try.func202, rfl, rfl, ⟨false, by kernel_rfl⟩, by kernel_rfl⟩
def c_slices_Index___int_int_ : SC := .seq (.reg [ia 4 (.mv (kI 0))]) (.seq (.seq (.reg [iv 6 0,ia 7 (.len (.t 6)),ia 8 (.mv (kI 0))]) (.block 0 (.loop (.seq (.reg [ia 9 (.bin .lss (.t 8) (.t 7))]) (.seq (.cond (.t 9) (.skip) (.exit 0)) (.seq (.block 1 (.seq (.reg [iv 10 8,iv 5 10]) (.seq (.reg [iv 11 1,iv 12 0,iv 13 5,ia 14 (.idx 1 (.t 12) (.t 13)),ia 15 (.ld1 (.t 14)),ia 16 (.bin .eql (.t 11) (.t 15))]) (.cond (.t 16) (.seq (.reg [iv 17 5,iv 4 17]) (.ret)) (.skip))))) (.reg [ia 18 (.bin .add (.t 8) (kI 1)),iv 8 18]))))))) (.seq (.reg [ia 4 (.mv (kI (-1)))]) (.ret)))
theorem h_slices_Index___int_int_ : Has Try.prog n_slices_Index___int_int_ 19 c_slices_Index___int_int_ [.t 4] := ⟨by decide, Try.f229, _, Try.func229, rfl, rfl, ⟨false, by kernel_rfl⟩, by kernel_rfl⟩
def c_impl_boatsOf : SC := .seq (.reg [ia 1 (.box 2 (.t 0)),ia 2 (.mv (.k (.nil 6)))]) (.seq (.reg [ia 3 (.mv (.k (.nil 6)))]) (.seq (.seq (.reg [ia 6 (.fld 1 (.t 1)),ia 7 (.ld1 (.t 6)),ia 8 (.len (.t 7)),ia 9 (.mv (kI 0))]) (.block 0 (.loop (.seq (.reg [ia 10 (.bin .lss (.t 9) (.t 8))]) (.seq (.cond (.t 10) (.skip) (.exit 0)) (.seq (.block 1 (.seq (.reg [ia 11 (.idx 1 (.t 7) (.t 9)),ia 12 (.ld1 (.t 11)),iv 5 12]) (.reg [iv 13 3,iv 14 5,ia 15 (.app 6 48 (.t 13) (.t 14)),iv 3 15]))) (.reg [ia 16 (.bin .add (.t 9) (kI 1)),iv 9 16]))))))) (.seq (.reg [iv 17 3,iv 2 17]) (.ret))))
theorem h_impl_boatsOf : Has Try.prog n_impl_boatsOf 18 c_impl_boatsOf [.t 2] := ⟨by decide, Try.f205, _, Try.func205, rfl, rfl, ⟨false, by kernel_rfl⟩, by kernel_rfl⟩
def smallS {α : Type} (sm : α → Prop) (xs : List α) : Prop := xs.length ≤ 1048576 ∧ ∀ x ∈ xs, sm x
structure Boat where
  Id : Int
  Length : Int
  Width : Int
  Draught : Int
  Speed : Int
  Class : Int
  deriving DecidableEq, Inhabited
@[simp] def Boat.enc (e : Boat) : List C := [.i e.Id, .i e.Length, .i e.Width, .i e.Draught, .i e.Speed, .i e.Class]
-- Boat
def small_BoatS : List Boat → Prop := smallS fun _ => True
abbrev enc_BoatS (xs : List Boat) : List C := [.sl 6 (xs.map Boat.enc)]
-- [][]Boat
def small_BoatSS : List (List Boat) → Prop := smallS small_BoatS
structure Train where
  Up : Bool
  Rows : List (List Boat)
  deriving DecidableEq, Inhabited
@[simp] def Train.enc (e : Train) : List C := [.b e.Up, .sl 1 (e.Rows.map enc_BoatS)]
-- Train
def Train.small (e : Train) : Prop := small_BoatSS e.Rows
structure Mover where
  Train : Train
  Place : Int
  deriving DecidableEq, Inhabited
@[simp] def Mover.enc (e : Mover) : List C := [.b e.Train.Up, .sl 1 (e.Train.Rows.map enc_BoatS), .i e.Place]
-- Mover
def Mover.small (e : Mover) : Prop := e.Train.small
theorem flat_len {α : Type} {B : Nat} : ∀ {l : List (List α)}, (∀ r ∈ l, r.length ≤ B) → l.flatten.length ≤ l.length * B
  | [], _ => by simp
  | r :: l, h => by
    have h1 := flat_len (l := l) fun x hx => h x (by simp [hx])
    have h2 := h r (by simp)
    simp only [List.flatten_cons, List.length_append, List.length_cons, Nat.add_mul, Nat.one_mul]
    omega
/-- The elements of the first k. -/
def heads {α : Type} (l : List (List α)) (k : Nat) : List α := (l.take k).flatten
theorem heads_zero {α : Type} {l : List (List α)} : heads l 0 = [] := rfl
theorem heads_succ {α : Type} {l : List (List α)} {k : Nat} {r : List α} (h : l[k]? = some r) : heads l (k + 1) = heads l k ++ r := by
  unfold heads; rw [List.take_succ, h]; simp
theorem heads_all {α : Type} {l : List (List α)} {k : Nat} (h : l.length ≤ k) : heads l k = l.flatten := by
  unfold heads; rw [List.take_of_length_le h]
theorem heads_bound {α : Type} {l : List (List α)} (h : smallS (smallS fun _ : α => True) l) (k : Nat) : (heads l k).length ≤ 1099511627776 := by
  have h1 := flat_len (l := l.take k) (B := 1048576) fun r hr => (h.2 r (List.mem_of_mem_take hr)).1
  have h2 := h.1
  have h3 : (l.take k).length ≤ 1048576 := by simp; omega
  have h4 := Nat.mul_le_mul_right 1048576 h3
  unfold heads
  omega
def Train.boats (t : Train) : List Boat := t.Rows.flatten
def BoatOk (b : Boat) : Bool := inRange b.Id 1 9999 && inRange b.Length 1 200 && inRange b.Width 1 30 && inRange b.Draught 1 100 && inRange b.Speed 1 50 && inRange b.Class 0 2
theorem BoatOk_impl (b : Boat) : PureF Try.prog n_impl_BoatOk [.agg (b.enc.map .c)] (.c (.b (BoatOk b))) := by
  refine pure_of h_impl_BoatOk (by simp) fun hwf => ?_
  simp -dsimp -implicitDefEqProofs [c_impl_BoatOk]
  refine call_lend (inRange_impl b.Id 1 9999) (by simp) rfl ?_
  simp -dsimp -implicitDefEqProofs
  refine ⟨fun h => ?_, fun h => by simp [BoatOk, h]⟩
  refine call_lend (inRange_impl b.Length 1 200) (by simp) rfl ?_
  simp -dsimp -implicitDefEqProofs
  refine ⟨fun h1 => ?_, fun h1 => by simp [BoatOk, h1]⟩
  refine call_lend (inRange_impl b.Width 1 30) (by simp) rfl ?_
  simp -dsimp -implicitDefEqProofs
  refine ⟨fun h2 => ?_, fun h1 => by simp [BoatOk, h1]⟩
  refine call_lend (inRange_impl b.Draught 1 100) (by simp) rfl ?_
  simp -dsimp -implicitDefEqProofs
  refine ⟨fun h3 => ?_, fun h1 => by simp [BoatOk, h1]⟩
  refine call_lend (inRange_impl b.Speed 1 50) (by simp) rfl ?_
  simp -dsimp -implicitDefEqProofs
  refine ⟨fun h4 => ?_, fun h1 => by simp [BoatOk, h1]⟩
  refine call_lend (inRange_impl b.Class 0 2) (by simp) rfl ?_
  simp -dsimp -implicitDefEqProofs
  simp [BoatOk, h, h1, h2, h3, h4]
/-- Place of n in a list, or -1. -/
def indexOf (l : List Int) (n : Int) : Int := match l.findIdx? (fun x => n == x) with | some i => i | none => -1
theorem indexOf_nonneg {l : List Int} {n : Int} : (0 ≤ indexOf l n) = (n ∈ l) := by
  unfold indexOf
  cases h : l.findIdx? (fun x => n == x) with
  | none =>
    rw [List.findIdx?_eq_none_iff] at h
    show (0 ≤ (-1 : Int)) = _
    simp only [eq_iff_iff]
    refine ⟨fun h1 => by omega, fun hm => ?_⟩
    have := h n hm
    simp at this
  | some i =>
    rw [List.findIdx?_eq_some_iff_getElem] at h
    obtain ⟨hi, h1, _⟩ := h
    simp only [eq_iff_iff]
    refine ⟨fun _ => ?_, fun _ => by omega⟩
    have : n = l[i] := by simpa using h1
    rw [this]; exact List.getElem_mem _
theorem indexOf_at {l : List Int} {n : Int} {k : Nat} (h : l[k]? = some n) (hn : ∀ x ∈ l.take k, n ≠ x) : indexOf l n = k := by
  unfold indexOf
  have : l.findIdx? (fun x => n == x) = some k := by
    rw [List.findIdx?_eq_some_iff_getElem]
    obtain ⟨hk1, hk2⟩ := List.getElem?_eq_some_iff.1 h
    refine ⟨hk1, by simp [hk2], fun j hj => ?_⟩
    have := hn (l[j]'(by omega)) (List.mem_take_iff_getElem.2 ⟨j, by omega, rfl⟩)
    simpa using this
  rw [this]
theorem indexOf_no {l : List Int} {n : Int} {k : Nat} (hk : l.length ≤ k) (hn : ∀ x ∈ l.take k, n ≠ x) : indexOf l n = -1 := by
  rw [List.take_of_length_le hk] at hn
  unfold indexOf
  have : l.findIdx? (fun x => n == x) = none := by
    rw [List.findIdx?_eq_none_iff]
    intro x hx
    simpa using hn x hx
  rw [this]
theorem takes_ne {l : List Int} {n x : Int} {k : Nat} (h : l[k]? = some x) (hx : n ≠ x) (hn : ∀ x ∈ l.take k, n ≠ x) : ∀ x ∈ l.take (k + 1), n ≠ x := by
  intro y hy
  rw [List.take_succ, h] at hy
  rcases List.mem_append.1 hy with h1 | h1
  · exact hn y h1
  · simp at h1; rw [h1]; exact hx
theorem Index_c (l : List Int) (n : Int) : PureF Try.prog n_slices_Index___int_int_ [.c (.sl 1 (l.map ienc)), .c (.i n)] (.c (.i (indexOf l n))) := by
  refine pure_of h_slices_Index___int_int_ (by simp) fun hwf => ?_
  simp -dsimp -implicitDefEqProofs [c_slices_Index___int_int_]
  intro hlen
  refine loop_rule (ι := Nat) (fun k => k ≤ l.length ∧ ∀ x ∈ l.take k, n ≠ x) (fun k => stOf [(0, .c (.sl 1 (l.map ienc))), (1, .c (.i n)), (7, .c (.i l.length)), (8, .c (.i k))] []) (fun k => l.length - k) 0 (by simp) (by apply le_of <;> simp [AV.refs1, AV.ref0, Obj.refs1]) ?_
  rintro k ⟨hk, hn⟩
  rcases Nat.lt_or_ge k l.length with hlt | hge
  · obtain ⟨x, hx⟩ : ∃ x, l[k]? = some x := ⟨_, List.getElem?_eq_getElem hlt⟩
    simp -dsimp -implicitDefEqProofs [hx, lt_t hlt]
    refine ⟨fun h => ?_, fun h => ⟨inI_succ hlt hlen, k + 1, ⟨hlt, takes_ne hx h hn⟩, by omega, by apply le_of <;> simp [AV.refs1, AV.ref0, Obj.refs1]⟩⟩
    exact indexOf_at (h ▸ hx) hn
  · simp -dsimp -implicitDefEqProofs [lt_f hge]
    exact indexOf_no hge hn
theorem Contains_c (l : List Int) (n : Int) : PureF Try.prog n_slices_Contains___int_int_ [.c (.sl 1 (l.map ienc)), .c (.i n)] (.c (.b (decide (n ∈ l)))) := by
  refine pure_of h_slices_Contains___int_int_ (by simp) fun hwf => ?_
  simp -dsimp -implicitDefEqProofs [c_slices_Contains___int_int_]
  refine call_lend (Index_c l n) (by simp) rfl ?_
  simp -dsimp -implicitDefEqProofs [indexOf_nonneg]
def idOf (b : Boat) : Int := b.Id
def full (r : List Boat) : Bool := decide (r.length ≠ 0)
theorem full_iff {r : List Boat} : full r = true ↔ r.length ≠ 0 := by simp [full]
def TrainOk (t : Train) : Bool := t.Rows.all full && t.boats.all BoatOk && decide ((t.boats.map idOf).Nodup) && inRange t.boats.length 1 6
theorem nodup_take {l : List Boat} {k : Nat} {b : Boat} (h : l[k]? = some b) : (((l.take (k + 1)).map idOf).Nodup ↔ ((l.take k).map idOf).Nodup ∧ b.Id ∉ (l.take k).map idOf) := by
  rw [List.take_succ, h, List.map_append]
  simp only [Option.toList_some, List.map_cons, List.map_nil, List.nodup_append, List.nodup_cons, List.not_mem_nil, not_false_eq_true, List.nodup_nil, and_self, true_and, List.mem_singleton, forall_eq, idOf]
  constructor
  · rintro ⟨h1, h2⟩; exact ⟨h1, fun hm => h2 _ hm rfl⟩
  · rintro ⟨h1, h2⟩; exact ⟨h1, fun x hx e => h2 (e ▸ hx)⟩
theorem boats_split {t : Train} {k : Nat} {r : List Boat} (h : t.Rows[k]? = some r) : ∃ m, t.boats = heads t.Rows k ++ r ++ m := by
  refine ⟨(t.Rows.drop (k + 1)).flatten, ?_⟩
  unfold Train.boats
  conv => lhs; rw [← List.take_append_drop (k + 1) t.Rows]
  rw [List.flatten_append, ← heads_succ h]; rfl
theorem tf_full {t : Train} {k : Nat} {r : List Boat} (h : t.Rows[k]? = some r) (h0 : r.length = 0) : TrainOk t = false := by
  have : t.Rows.all full = false := all_false (p := full) h (by simp [full, h0])
  simp only [TrainOk, this, Bool.false_and]
theorem tf_len {t : Train} (h : 6 < t.boats.length) : TrainOk t = false := by
  have h7 : inRange t.boats.length 1 6 = false := inRange_not.2 (by omega)
  simp only [TrainOk, h7, Bool.and_false]
theorem tf_boat {t : Train} {b : Boat} (hb : b ∈ t.boats) (h : BoatOk b = false) : TrainOk t = false := by
  obtain ⟨i, hi⟩ := List.getElem?_of_mem hb
  have : t.boats.all BoatOk = false := all_false (p := BoatOk) hi h
  simp only [TrainOk, this, Bool.false_and, Bool.and_false]
theorem tf_ids {t : Train} (h : ¬ (t.boats.map idOf).Nodup) : TrainOk t = false := by simp [TrainOk, h]
/-- The array of the Ids that were met. -/
def seenOf (l : List Boat) : List (List C) := (l.map idOf).map ienc ++ List.replicate (6 - l.length) [.i 0]
theorem seen_len {l : List Boat} (h : l.length ≤ 6) : (seenOf l).length = 6 := by simp [seenOf]; omega
theorem seen_take {l : List Boat} {n : Nat} (h : n = l.length) : (seenOf l).take n = (l.map idOf).map ienc := by
  subst h; unfold seenOf; rw [List.take_append_of_le_length (by simp), List.take_of_length_le (by simp)]
theorem seen_set {l : List Boat} {b : Boat} (h : l.length < 6) : (seenOf l).set l.length [.i b.Id] = seenOf (l ++ [b]) := by
  unfold seenOf
  rw [List.set_append_right _ _ (by simp)]
  have h1 : ((l.map idOf).map ienc).length = l.length := by simp
  rw [h1, Nat.sub_self, show 6 - l.length = (6 - (l.length + 1)) + 1 by omega, List.replicate_succ, List.set_cons_zero]
  simp [idOf]
theorem seen_get {l : List Boat} (h : l.length < 6) : (seenOf l)[l.length]?.getD [] = [.i 0] := by
  unfold seenOf
  rw [List.getElem?_append_right (by simp)]
  have h1 : ((l.map idOf).map ienc).length = l.length := by simp
  rw [h1, Nat.sub_self, List.getElem?_replicate, if_pos (by omega)]; rfl
theorem seen_nil : seenOf [] = List.replicate 6 [.i 0] := rfl
/-- What holds of the boats met so far. -/
structure Met (l : List Boat) : Prop where
  ok : ∀ b ∈ l, BoatOk b = true
  nd : (l.map idOf).Nodup
  len : l.length ≤ 6
theorem Met.snoc {l : List Boat} {b : Boat} (h : Met l) (h1 : BoatOk b = true) (h2 : b.Id ∉ l.map idOf) (h3 : l.length < 6) : Met (l ++ [b]) := by
  refine ⟨?_, ?_, by simp; omega⟩
  · intro x hx
    rcases List.mem_append.1 hx with hx | hx
    · exact h.ok x hx
    · rw [List.mem_singleton.1 hx]; exact h1
  · have := @nodup_take (l ++ [b]) l.length b (by simp)
    rw [show l.length + 1 = (l ++ [b]).length by simp, List.take_length] at this
    rw [this, List.take_left']
    · exact ⟨h.nd, h2⟩
    · rfl
def soFar (t : Train) (k : Nat) (r : List Boat) (j : Nat) : List Boat := heads t.Rows k ++ r.take j
theorem soFar_zero {t : Train} {k : Nat} {r : List Boat} : soFar t k r 0 = heads t.Rows k := by simp [soFar]
theorem soFar_succ {t : Train} {k : Nat} {r : List Boat} {j : Nat} {b : Boat} (h : r[j]? = some b) : soFar t k r (j + 1) = soFar t k r j ++ [b] := by
  unfold soFar; rw [List.take_succ, h]; simp
theorem soFar_all {t : Train} {k : Nat} {r : List Boat} {j : Nat} (hr : t.Rows[k]? = some r) (h : r.length ≤ j) : soFar t k r j = heads t.Rows (k + 1) := by
  unfold soFar; rw [List.take_of_length_le h, heads_succ hr]
theorem soFar_len {t : Train} {k : Nat} {r : List Boat} {j : Nat} (h : j ≤ r.length) : (soFar t k r j).length = (heads t.Rows k).length + j := by
  unfold soFar; simp; omega
theorem TrainOk_impl (t : Train) (h : t.small) : PureF Try.prog n_impl_TrainOk [.agg (t.enc.map .c)] (.c (.b (TrainOk t))) := by
  refine pure_of h_impl_TrainOk (by simp) fun hwf => ?_
  simp -dsimp -implicitDefEqProofs [c_impl_TrainOk]
  intro hlen
  refine ⟨fun h0 _ => ⟨fun h1 => ?_, fun h1 _ => ?_⟩, fun h0 => ?_⟩
  · by_cases h2 : TrainOk t = false
    · exact h2
    · exfalso
      have h3 : TrainOk t = true := by simpa using h2
      simp only [TrainOk, Bool.and_eq_true, List.all_eq_true] at h3
      obtain ⟨⟨⟨h4, _⟩, _⟩, h5⟩ := h3
      have h6 := inRange_iff.1 h5
      have : ∀ l : List (List Boat), (∀ r ∈ l, full r = true) → l.length ≤ l.flatten.length := by
        intro l
        induction l with
        | nil => simp
        | cons r l ih =>
          intro hl
          have e1 := ih fun x hx => hl x (by simp [hx])
          have e2 := full_iff.1 (hl r (by simp))
          simp only [List.length_cons, List.flatten_cons, List.length_append]; omega
      have := this t.Rows h4
      unfold Train.boats at h6
      omega
  · refine loop_rule (ι := Nat) (fun k => k ≤ t.Rows.length ∧ (∀ r ∈ t.Rows.take k, full r = true) ∧ Met (heads t.Rows k)) (fun k => stOf [(3, .row 3 1 0 0), (4, .c (.i (heads t.Rows k).length)), (20, .c (.sl 1 (t.Rows.map enc_BoatS))), (21, .c (.i t.Rows.length)), (22, .c (.i k))] [(3, .row 1 (seenOf (heads t.Rows k)))]) (fun k => t.Rows.length - k) 0 ⟨by simp, by simp, by simp [heads_zero], by simp [heads_zero], by simp [heads_zero]⟩ (by apply le_of <;> simp [AV.refs1, AV.ref0, Obj.refs1, heads_zero, seen_nil]) ?_
    rintro k ⟨hk, hall, hm⟩
    rcases Nat.lt_or_ge k t.Rows.length with hlt | hge
    · obtain ⟨r, hr⟩ : ∃ r, t.Rows[k]? = some r := ⟨_, List.getElem?_eq_getElem hlt⟩
      have hml := hm.len
      have hrs := (h.2 r (List.mem_of_getElem? hr)).1
      obtain ⟨rest, hsp⟩ := boats_split hr
      simp -dsimp -implicitDefEqProofs [hr, lt_t hlt]
      intro hrl
      refine ⟨fun hr0 _ => ⟨by unfold inI; omega, fun h6 => ?_, fun h6 _ => ?_⟩, fun hr0 => ?_⟩
      · refine tf_len ?_
        rw [hsp]; simp only [List.length_append]; omega
      · refine loop_rule (ι := Nat) (fun j => j ≤ r.length ∧ Met (soFar t k r j)) (fun j => stOf [(3, .row 3 1 0 0), (4, .c (.i (soFar t k r j).length)), (20, .c (.sl 1 (t.Rows.map enc_BoatS))), (21, .c (.i t.Rows.length)), (22, .c (.i k)), (36, .c (.sl 6 (r.map Boat.enc))), (37, .c (.i r.length)), (38, .c (.i j))] [(3, .row 1 (seenOf (soFar t k r j)))]) (fun j => r.length - j) 0 ⟨by simp, by rw [soFar_zero]; exact hm⟩ (by apply le_of <;> simp [AV.refs1, AV.ref0, Obj.refs1, soFar_zero]) ?_
        rintro j ⟨hj, hmj⟩
        rcases Nat.lt_or_ge j r.length with hlt2 | hge2
        · obtain ⟨b, hb⟩ : ∃ b, r[j]? = some b := ⟨_, List.getElem?_eq_getElem hlt2⟩
          have hsl := soFar_len (t := t) (k := k) hj
          have hlt6 : (soFar t k r j).length < 6 := by omega
          have hmem : b ∈ t.boats := by
            rw [hsp]; simp only [List.mem_append]; exact .inl (.inr (List.mem_of_getElem? hb))
          simp -dsimp -implicitDefEqProofs [hb, lt_t hlt2]
          refine ⟨_, _, BoatOk_impl b, by simp, .inr rfl, ?_⟩
          simp -dsimp -implicitDefEqProofs
          refine ⟨fun h2 => ?_, fun h2 => tf_boat hmem h2⟩
          have hsn := seen_len hmj.len
          refine ⟨by omega, hsn, ?_⟩
          refine ⟨_, _, Contains_c ((soFar t k r j).map idOf) b.Id, by simp [seen_take], .inr rfl, ?_⟩
          simp -dsimp -implicitDefEqProofs [lt_t hlt2, seen_get hlt6, seen_set hlt6]
          refine ⟨fun x hx he => tf_ids fun hn => ?_, fun h3 => ?_⟩
          · have hsp2 : t.boats = soFar t k r j ++ (b :: (r.drop (j + 1) ++ rest)) := by
              rw [hsp]; unfold soFar
              have : r = r.take j ++ b :: r.drop (j + 1) := by
                conv => lhs; rw [← List.take_append_drop j r]
                rw [List.drop_eq_getElem_cons hlt2, (List.getElem?_eq_some_iff.1 hb).2]
              conv => lhs; rw [this]
              simp
            rw [hsp2, List.map_append, List.map_cons] at hn
            exact (List.nodup_append.1 hn).2.2 _ (List.mem_map_of_mem hx) _ (List.mem_cons_self) he
          · have hni : b.Id ∉ (soFar t k r j).map idOf := by
              intro hm'
              obtain ⟨x, hx, he⟩ := List.mem_map.1 hm'
              exact h3 x hx he
            have hs1 := soFar_succ (t := t) (k := k) hb
            refine ⟨by omega, by omega, by unfold inI; omega, by unfold inI; omega, j + 1, ⟨hlt2, by rw [hs1]; exact hmj.snoc h2 hni hlt6⟩, by omega, ?_⟩
            apply le_of <;> simp [AV.refs1, AV.ref0, Obj.refs1, hs1]
        · simp -dsimp -implicitDefEqProofs [lt_f hge2]
          rw [soFar_all hr hge2] at hmj
          refine ⟨by unfold inI; omega, k + 1, ⟨hlt, all_take_succ (p := full) hr hall (by simp [full, hr0]), hmj⟩, by omega, ?_⟩
          apply le_of <;> simp [AV.refs1, AV.ref0, Obj.refs1, soFar_all hr hge2]
      · exact tf_full hr (by simp [hr0])
    · simp -dsimp -implicitDefEqProofs [lt_f hge]
      rw [heads_all hge] at hm
      have hr1 := all_of_take (p := full) hge hall
      have hb1 : t.boats.all BoatOk = true := List.all_eq_true.2 hm.ok
      have hl1 : 0 < t.boats.length := by
        obtain ⟨r, l, e⟩ := List.exists_cons_of_ne_nil h0
        have := full_iff.1 (List.all_eq_true.1 hr1 r (by rw [e]; simp))
        unfold Train.boats
        rw [e]; simp only [List.flatten_cons, List.length_append]; omega
      have hl2 : t.boats.length ≤ 6 := hm.len
      have h7 : inRange t.boats.length 1 6 = true := inRange_iff.2 (by omega)
      have hn1 : (t.boats.map idOf).Nodup := hm.nd
      simp [TrainOk, hr1, hb1, hn1, h7]
  · have : t.boats = [] := by simp [Train.boats, h0]
    have h7 : inRange t.boats.length 1 6 = false := by rw [this]; rfl
    simp only [TrainOk, h7, Bool.and_false]
def minOf (f : Boat → Int) (l : List Boat) (z : Int) : Int := l.foldl (fun m b => if f b < m then f b else m) z
def minTo (f : Boat → Int) (l : List Boat) (z : Int) (k : Nat) : Int := minOf f (l.take k) z
theorem minTo_zero {f : Boat → Int} {l : List Boat} {z : Int} : minTo f l z 0 = z := rfl
theorem minTo_succ {f : Boat → Int} {l : List Boat} {z : Int} {k : Nat} {b : Boat} (h : l[k]? = some b) : minTo f l z (k + 1) = if f b < minTo f l z k then f b else minTo f l z k := by
  unfold minTo minOf; rw [List.take_succ, h, List.foldl_append]; rfl
theorem minTo_all {f : Boat → Int} {l : List Boat} {z : Int} {k : Nat} (h : l.length ≤ k) : minTo f l z k = minOf f l z := by
  unfold minTo; rw [List.take_of_length_le h]
theorem minOf_in {f : Boat → Int} {a b : Int} : ∀ {l : List Boat} {z : Int}, (∀ x ∈ l, a ≤ f x ∧ f x ≤ b) → a ≤ z → z ≤ b → a ≤ minOf f l z ∧ minOf f l z ≤ b
  | [], z, _, h1, h2 => ⟨h1, h2⟩
  | x :: l, z, h, h1, h2 => by
    have := h x (by simp)
    unfold minOf
    rw [List.foldl_cons]
    refine minOf_in (l := l) (fun y hy => h y (by simp [hy])) ?_ ?_ <;> split <;> omega
structure TrainFacts (t : Train) : Prop where
  rows : ∀ r ∈ t.Rows, full r = true
  ok : ∀ b ∈ t.boats, BoatOk b = true
  nd : (t.boats.map idOf).Nodup
  pos : 1 ≤ t.boats.length
  len : t.boats.length ≤ 6
theorem trainFacts {t : Train} (h : TrainOk t = true) : TrainFacts t := by
  simp only [TrainOk, Bool.and_eq_true, List.all_eq_true, decide_eq_true_eq] at h
  obtain ⟨⟨⟨h1, h2⟩, h3⟩, h4⟩ := h
  have h5 := inRange_iff.1 h4
  exact ⟨h1, h2, h3, by omega, by omega⟩
theorem boatFacts {b : Boat} (h : BoatOk b = true) : (1 ≤ b.Id ∧ b.Id ≤ 9999) ∧ (1 ≤ b.Length ∧ b.Length ≤ 200) ∧ (1 ≤ b.Width ∧ b.Width ≤ 30) ∧ (1 ≤ b.Draught ∧ b.Draught ≤ 100) ∧ (1 ≤ b.Speed ∧ b.Speed ≤ 50) ∧ (0 ≤ b.Class ∧ b.Class ≤ 2) := by
  simp only [BoatOk, Bool.and_eq_true] at h
  obtain ⟨⟨⟨⟨⟨h1, h2⟩, h3⟩, h4⟩, h5⟩, h6⟩ := h
  exact ⟨inRange_iff.1 h1, inRange_iff.1 h2, inRange_iff.1 h3, inRange_iff.1 h4, inRange_iff.1 h5, inRange_iff.1 h6⟩
theorem boatsOf_c (t : Train) (h : t.small) : PureF Try.prog n_impl_boatsOf [.agg (t.enc.map .c)] (.c (.sl 6 (t.boats.map Boat.enc))) := by
  refine pure_of h_impl_boatsOf (by simp) fun hwf => ?_
  simp -dsimp -implicitDefEqProofs [c_impl_boatsOf]
  intro hlen
  refine virt_rule (k0 := 6) 3 6 (by simp) (by simp) (by decide) ?_
  refine loop_rule (ι := Nat) (fun k => k ≤ t.Rows.length) (fun k => stOf [(3, .own 3 6 (heads t.Rows k).length), (7, .c (.sl 1 (t.Rows.map enc_BoatS))), (8, .c (.i t.Rows.length)), (9, .c (.i k))] [(3, .row 6 ((heads t.Rows k).map Boat.enc))]) (fun k => t.Rows.length - k) 0 (by simp) (by apply le_of <;> simp [AV.refs1, AV.ref0, Obj.refs1, heads_zero]) ?_
  rintro k hk
  rcases Nat.lt_or_ge k t.Rows.length with hlt | hge
  · obtain ⟨r, hr⟩ : ∃ r, t.Rows[k]? = some r := ⟨_, List.getElem?_eq_getElem hlt⟩
    have hb := heads_bound h (k + 1)
    have hf := heads_succ hr
    rw [hf, List.length_append] at hb
    simp -dsimp -implicitDefEqProofs [hr, lt_t hlt]
    refine ⟨by omega, inI_succ hlt hlen, k + 1, hlt, by omega, ?_⟩
    apply le_of <;> simp [AV.refs1, AV.ref0, Obj.refs1, hf]
  · simp -dsimp -implicitDefEqProofs [lt_f hge]
    rw [heads_all hge]
    rw [List.take_of_length_le (by rw [List.length_map]; exact Nat.le_refl _)]; rfl
def firstOf (f : Boat → Int) (l : List Boat) : Int := match l with | b :: _ => f b | [] => 0
theorem get0 {l : List Boat} {b : Boat} (h : l[0]? = some b) (f : Boat → Int) : firstOf f l = f b := by
  cases l with
  | nil => simp at h
  | cons x l => simp at h; rw [h]; rfl
theorem first_row {t : Train} (h : TrainFacts t) : ∃ r b, t.Rows[0]? = some r ∧ r[0]? = some b ∧ t.boats[0]? = some b := by
  have h1 := h.pos
  cases hr : t.Rows with
  | nil => unfold Train.boats at h1; rw [hr] at h1; simp at h1
  | cons r l =>
    have h2 := full_iff.1 (h.rows r (by rw [hr]; simp))
    cases r with
    | nil => simp at h2
    | cons b r => exact ⟨b :: r, b, rfl, rfl, by unfold Train.boats; rw [hr]; rfl⟩
def c_laws_FnTurns : SC := .seq (.reg [ia 2 (.mv (kB false))]) (.seq (.seq (.reg [iv 12 0,ia 13 (.call n_laws_big [.t 12])]) (.cond (.t 13) (.seq (.reg [ia 2 (.mv (kB true))]) (.ret)) (.skip))) (.seq (.reg [ia 14 (.bld [.c (.b false),.c (.i 0)] []),ia 3 (.alloc [.c (.b false),.c (.i 0)]),ie (.stn 2 (.t 3) (.t 14))]) (.seq (.reg [iv 15 0,ia 16 (.call n_spec_DrawCalls [.t 15]),iv 4 16]) (.seq (.reg [ia 5 (.mv (kI 0))]) (.seq (.reg [ia 6 (.mv (kB false))]) (.seq (.seq (.reg [ia 7 (.mv (kI 0))]) (.block 0 (.loop (.seq (.seq (.reg [iv 17 7,ia 18 (.bin .lss (.t 17) (kI 30))]) (.cond (.t 18) (.skip) (.exit 0))) (.seq (.block 1 (.seq (.reg [iv 22 4,ia 23 (.ldn 2 (.t 3)),ia 24 (.call n_impl_NextSide [.t 22,.t 23,kI 100]),iv 21 24,ia 25 (.ext 0 (.t 21)),ia 26 (.ext 1 (.t 21)),iv 8 25,iv 9 26]) (.seq (.seq (.reg [iv 27 9,iv 28 4,ia 29 (.len (.t 28)),ia 30 (.bin .gtr (.t 29) (kI 0)),ia 31 (.beq true (.t 27) (.t 30))]) (.cond (.t 31) (.seq (.reg [ia 2 (.mv (kB false))]) (.ret)) (.skip))) (.seq (.seq (.reg [iv 32 9,ia 33 (.not (.t 32))]) (.cond (.t 33) (.exit 0) (.skip))) (.seq (.reg [ia 10 (.mv (kI 0))]) (.seq (.seq (.reg [ia 11 (.mv (kI 0))]) (.block 2 (.loop (.seq (.seq (.reg [iv 34 11,iv 35 4,ia 36 (.len (.t 35)),ia 37 (.bin .lss (.t 34) (.t 36))]) (.cond (.t 37) (.skip) (.exit 2))) (.seq (.block 3 (.reg [iv 40 10,iv 41 4,iv 42 11,ia 43 (.idx 4 (.t 41) (.t 42)),ia 44 (.fld 0 (.t 43)),ia 45 (.fld 0 (.t 44)),ia 46 (.ld1 (.t 45)),ia 47 (.call n_laws_btoi [.t 46]),ia 48 (.bin .add (.t 40) (.t 47)),iv 10 48])) (.reg [iv 38 11,ia 39 (.bin .add (.t 38) (kI 1)),iv 11 39])))))) (.seq (.seq (.reg [iv 49 8,iv 50 49,ig 50 true 51 (.mv (.t 10)),ig 50 true 52 (.bin .eql (.t 51) (kI 0)),ia 53 (.pick (.t 50) (.t 52) (kB false)),iv 54 53,ig 54 false 55 (.mv (.t 8)),ig 54 false 56 (.not (.t 55)),ig 54 false 57 (.mv (.t 56)),ig 57 true 58 (.mv (.t 10)),ig 57 true 59 (.mv (.t 4)),ig 57 true 60 (.len (.t 59)),ig 57 true 61 (.bin .eql (.t 58) (.t 60)),ig 54 false 62 (.pick (.t 57) (.t 61) (kB false)),ia 63 (.pick (.t 54) (kB true) (.t 62))]) (.cond (.t 63) (.seq (.reg [ia 2 (.mv (kB false))]) (.ret)) (.skip))) (.seq (.reg [ia 64 (.ldn 2 (.t 3)),iv 65 8,ia 66 (.call n_impl_NoteTurn [.t 64,.t 65]),ie (.stn 2 (.t 3) (.t 66))]) (.seq (.seq (.reg [iv 67 7,ia 68 (.bin .gtr (.t 67) (kI 0)),iv 69 68,ig 69 true 70 (.mv (.t 8)),ig 69 true 71 (.mv (.t 6)),ig 69 true 72 (.beq false (.t 70) (.t 71)),ia 73 (.pick (.t 69) (.t 72) (kB false))]) (.cond (.t 73) (.reg [iv 74 5,ia 75 (.bin .add (.t 74) (kI 1)),iv 5 75]) (.reg [ia 5 (.mv (kI 1))]))) (.seq (.reg [iv 76 8,iv 6 76]) (.seq (.reg [iv 77 5,ia 78 (.bin .gtr (.t 77) (kI 3)),iv 79 78,ig 79 true 80 (.mv (.t 10)),ig 79 true 81 (.bin .gtr (.t 80) (kI 0)),ia 82 (.pick (.t 79) (.t 81) (kB false)),iv 83 82,ig 83 true 84 (.mv (.t 10)),ig 83 true 85 (.mv (.t 4)),ig 83 true 86 (.len (.t 85)),ig 83 true 87 (.bin .lss (.t 84) (.t 86)),ia 88 (.pick (.t 83) (.t 87) (kB false))]) (.cond (.t 88) (.seq (.reg [ia 2 (.mv (kB false))]) (.ret)) (.skip))))))))))))) (.reg [iv 19 7,ia 20 (.bin .add (.t 19) (kI 1)),iv 7 20])))))) (.seq (.reg [ia 89 (.ldn 2 (.t 3)),ia 90 (.call n_impl_TurnOk [.t 89]),iv 2 90]) (.ret))))))))
theorem h_laws_FnTurns : Has Try.prog n_laws_FnTurns 91 c_laws_FnTurns [.t 2] := ⟨by decide, Try.f8, _, Try.func8, rfl, rfl, ⟨false, by kernel_rfl⟩, by kernel_rfl⟩
def c_spec_DrawCalls : SC := .seq (.reg [ia 2 (.mv (.k (.nil 4)))]) (.seq (.reg [iv 6 0,ia 7 (.call n_spec_l01New [.t 6]),iv 3 7]) (.seq (.reg [ia 8 (.bsl 4 []),iv 4 8]) (.seq (.seq (.reg [iv 9 3,ia 10 (.call n_spec_l01Below [.t 9,kI 7]),iv 5 10]) (.block 0 (.loop (.seq (.seq (.reg [iv 11 5,ia 12 (.bin .gtr (.t 11) (kI 0))]) (.cond (.t 12) (.skip) (.exit 0))) (.seq (.block 1 (.reg [iv 15 4,iv 16 3,iv 17 5,ia 18 (.bin .mul (kI 10) (.t 17)),ia 19 (.call n_spec_l06Call [.t 16,.t 18,kI 100]),ia 20 (.bsl 4 [.t 19]),ia 21 (.app 4 48 (.t 15) (.t 20)),iv 4 21])) (.reg [iv 13 5,ia 14 (.bin .sub (.t 13) (kI 1)),iv 5 14])))))) (.seq (.reg [iv 22 4,iv 2 22]) (.ret)))))
theorem h_spec_DrawCalls : Has Try.prog n_spec_DrawCalls 23 c_spec_DrawCalls [.t 2] := ⟨by decide, Try.f49, _, Try.func49, rfl, rfl, ⟨false, by kernel_rfl⟩, by kernel_rfl⟩
def c_impl_NextSide : SC := .seq (.reg [ia 4 (.box 2 (.t 1)),ia 6 (.mv (kB false)),ia 7 (.mv (kB false))]) (.seq (.reg [iv 12 0,iv 13 2,ia 14 (.call n_impl_OrderCalls [.t 12,.t 13]),iv 8 14]) (.seq (.seq (.reg [iv 15 8,ia 16 (.len (.t 15)),ia 17 (.bin .eql (.t 16) (kI 0)),iv 18 17,ig 18 false 19 (.ldn 2 (.t 4)),ig 18 false 20 (.call n_impl_TurnOk [.t 19]),ig 18 false 21 (.not (.t 20)),ia 22 (.pick (.t 18) (kB true) (.t 21))]) (.cond (.t 22) (.seq (.reg [ia 6 (.mv (kB false)),ia 7 (.mv (kB false))]) (.ret)) (.skip))) (.seq (.reg [iv 23 0,iv 24 8,ia 25 (.idx 1 (.t 24) (kI 0)),ia 26 (.ld1 (.t 25)),ia 27 (.idx 4 (.t 23) (.t 26)),ia 28 (.fld 0 (.t 27)),ia 29 (.fld 0 (.t 28)),ia 30 (.ld1 (.t 29)),iv 9 30]) (.seq (.seq (.reg [iv 31 9,ia 32 (.fld 0 (.t 4)),ia 33 (.ld1 (.t 32)),ia 34 (.beq true (.t 31) (.t 33)),iv 35 34,ig 35 false 36 (.fld 1 (.t 4)),ig 35 false 37 (.ld1 (.t 36)),ig 35 false 38 (.bin .lss (.t 37) (kI 3)),ia 39 (.pick (.t 35) (kB true) (.t 38))]) (.cond (.t 39) (.seq (.reg [iv 40 9,iv 6 40,ia 7 (.mv (kB true))]) (.ret)) (.skip))) (.seq (.seq (.reg [iv 41 8,ia 42 (.len (.t 41)),ia 43 (.mv (kI 0))]) (.block 0 (.loop (.seq (.reg [ia 44 (.bin .lss (.t 43) (.t 42))]) (.seq (.cond (.t 44) (.skip) (.exit 0)) (.seq (.block 1 (.seq (.reg [ia 45 (.idx 1 (.t 41) (.t 43)),ia 46 (.ld1 (.t 45)),iv 11 46]) (.seq (.reg [iv 47 0,iv 48 11,ia 49 (.idx 4 (.t 47) (.t 48)),ia 50 (.fld 0 (.t 49)),ia 51 (.fld 0 (.t 50)),ia 52 (.ld1 (.t 51)),iv 53 9,ia 54 (.beq true (.t 52) (.t 53))]) (.cond (.t 54) (.seq (.reg [iv 55 9,ia 56 (.not (.t 55)),iv 6 56,ia 7 (.mv (kB true))]) (.ret)) (.skip))))) (.reg [ia 57 (.bin .add (.t 43) (kI 1)),iv 43 57]))))))) (.seq (.reg [iv 58 9,iv 6 58,ia 7 (.mv (kB true))]) (.ret)))))))
theorem h_impl_NextSide : Has Try.prog n_impl_NextSide 59 c_impl_NextSide [.t 6, .t 7] := ⟨by decide, Try.f50, _, Try.func50, rfl, rfl, ⟨false, by kernel_rfl⟩, by kernel_rfl⟩
def c_laws_btoi : SC := .seq (.reg [ia 2 (.mv (kI 0))]) (.seq (.seq (.reg [iv 3 0]) (.cond (.t 3) (.seq (.reg [ia 2 (.mv (kI 1))]) (.ret)) (.skip))) (.seq (.reg [ia 2 (.mv (kI 0))]) (.ret)))
theorem h_laws_btoi : Has Try.prog n_laws_btoi 4 c_laws_btoi [.t 2] := ⟨by decide, Try.f51, _, Try.func51, rfl, rfl, ⟨false, by kernel_rfl⟩, by kernel_rfl⟩
def c_impl_NoteTurn : SC := .seq (.reg [ia 2 (.box 2 (.t 0)),ia 4 (.alloc [.c (.b false),.c (.i 0)])]) (.seq (.seq (.reg [ia 5 (.ldn 2 (.t 2)),ia 6 (.call n_impl_TurnOk [.t 5]),ia 7 (.not (.t 6))]) (.cond (.t 7) (.seq (.reg [ia 8 (.ldn 2 (.t 2)),ie (.stn 2 (.t 4) (.t 8))]) (.ret)) (.skip))) (.seq (.seq (.reg [ia 9 (.fld 0 (.t 2)),ia 10 (.ld1 (.t 9)),iv 11 1,ia 12 (.beq false (.t 10) (.t 11))]) (.cond (.t 12) (.seq (.reg [iv 13 1,ia 14 (.fld 1 (.t 2)),ia 15 (.ld1 (.t 14)),ia 16 (.bin .add (.t 15) (kI 1)),ia 17 (.mn [.t 16,kI 1000000]),ia 18 (.bld [.c (.b false),.c (.i 0)] [(0,1,.t 13),(1,1,.t 17)]),ie (.stn 2 (.t 4) (.t 18))]) (.ret)) (.skip))) (.seq (.reg [iv 19 1,ia 20 (.bld [.c (.b false),.c (.i 0)] [(0,1,.t 19),(1,1,kI 1)]),ie (.stn 2 (.t 4) (.t 20))]) (.ret))))
theorem h_impl_NoteTurn : Has Try.prog n_impl_NoteTurn 21 c_impl_NoteTurn [.cl 4 2] := ⟨by decide, Try.f52, _, Try.func52, rfl, rfl, ⟨false, by kernel_rfl⟩, by kernel_rfl⟩
def c_impl_TurnOk : SC := .seq (.reg [ia 1 (.box 2 (.t 0)),ia 2 (.mv (kB false))]) (.seq (.reg [ia 3 (.fld 1 (.t 1)),ia 4 (.ld1 (.t 3)),ia 5 (.call n_impl_inRange [.t 4,kI 0,kI 1000000]),iv 2 5]) (.ret))
theorem h_impl_TurnOk : Has Try.prog n_impl_TurnOk 6 c_impl_TurnOk [.t 2] := ⟨by decide, Try.f53, _, Try.func53, rfl, rfl, ⟨false, by kernel_rfl⟩, by kernel_rfl⟩
def c_impl_OrderCalls : SC := .seq (.reg [ia 2 (.box 1 (.t 0)),ia 3 (.box 1 (.t 1)),ia 4 (.mv (.k (.nil 1)))]) (.seq (.reg [ia 5 (.mv (.k (.nil 1)))]) (.seq (.seq (.reg [ia 8 (.ld1 (.t 2)),ia 9 (.len (.t 8)),ia 10 (.mv (kI 0))]) (.block 0 (.loop (.seq (.reg [ia 11 (.bin .lss (.t 10) (.t 9))]) (.seq (.cond (.t 11) (.skip) (.exit 0)) (.seq (.block 1 (.seq (.reg [iv 12 10,ia 13 (.idx 4 (.t 8) (.t 10)),ia 14 (.ldn 4 (.t 13)),ia 7 (.alloc [.c (.b false),.nil 1,.c (.i 0),.c (.i 0)]),iv 6 12,ie (.stn 4 (.t 7) (.t 14))]) (.seq (.reg [ia 15 (.ldn 4 (.t 7)),ia 16 (.ld1 (.t 3)),ia 17 (.call n_impl_RankOf [.t 15,.t 16]),ia 18 (.bin .neq (.t 17) (kI 3))]) (.cond (.t 18) (.reg [iv 19 5,iv 20 6,ia 21 (.bsl 1 [.t 20]),ia 22 (.app 1 8 (.t 19) (.t 21)),iv 5 22]) (.skip))))) (.reg [ia 23 (.bin .add (.t 10) (kI 1)),iv 10 23]))))))) (.seq (.reg [iv 24 5,ia 25 (.mkf n_impl_OrderCalls_1 [.t 2,.t 3]),ia 26 (.call n_slices_SortStableFunc___int_int_ [.t 24,.t 25])]) (.seq (.reg [iv 27 5,iv 4 27]) (.ret)))))
theorem h_impl_OrderCalls : Has Try.prog n_impl_OrderCalls 28 c_impl_OrderCalls [.t 4] := ⟨by decide, Try.f99, _, Try.func99, rfl, rfl, ⟨false, by kernel_rfl⟩, by kernel_rfl⟩
def c_spec_l06Call : SC := .seq (.reg [ia 6 (.alloc [.c (.b false),.nil 1,.c (.i 0),.c (.i 0)])]) (.seq (.reg [iv 7 0,iv 8 1,ia 9 (.call n_spec_l04Train [.t 7,.t 8]),iv 10 2,iv 11 0,ia 12 (.bsl 1 [kI 0,kI 5,kI 19,kI 20,kI 45,kI 70]),ia 13 (.call n_spec_l01PickInt [.t 11,.t 12]),ia 14 (.bin .sub (.t 10) (.t 13)),ia 15 (.mx [kI 0,.t 14]),iv 16 0,iv 17 2,ia 18 (.bin .sub (.t 17) (kI 3)),iv 19 2,iv 20 2,ia 21 (.bin .add (.t 20) (kI 5)),ia 22 (.bsl 1 [kI (-1),kI (-1),kI (-1),.t 18,.t 19,.t 21]),ia 23 (.call n_spec_l01PickInt [.t 16,.t 22]),ia 24 (.bld [.c (.b false),.nil 1,.c (.i 0),.c (.i 0)] [(0,2,.t 9),(2,1,.t 15),(3,1,.t 23)]),ie (.stn 4 (.t 6) (.t 24))]) (.ret))
theorem h_spec_l06Call : Has Try.prog n_spec_l06Call 25 c_spec_l06Call [.cl 6 4] := ⟨by decide, Try.f125, _, Try.func125, rfl, rfl, ⟨false, by kernel_rfl⟩, by kernel_rfl⟩
def c_impl_ClassOf : SC := .seq (.reg [ia 1 (.box 2 (.t 0)),ia 2 (.mv (kI 0))]) (.seq (.seq (.reg [ia 6 (.ldn 2 (.t 1)),ia 7 (.call n_impl_TrainOk [.t 6]),ia 8 (.not (.t 7))]) (.cond (.t 8) (.seq (.reg [ia 2 (.mv (kI (-1)))]) (.ret)) (.skip))) (.seq (.reg [ia 9 (.fld 1 (.t 1)),ia 10 (.ld1 (.t 9)),ia 11 (.idx 1 (.t 10) (kI 0)),ia 12 (.ld1 (.t 11)),ia 13 (.idx 6 (.t 12) (kI 0)),ia 14 (.fld 5 (.t 13)),ia 15 (.ld1 (.t 14)),iv 3 15]) (.seq (.seq (.reg [ia 16 (.ldn 2 (.t 1)),ia 17 (.call n_impl_boatsOf [.t 16]),ia 18 (.len (.t 17)),ia 19 (.mv (kI 0))]) (.block 0 (.loop (.seq (.reg [ia 20 (.bin .lss (.t 19) (.t 18))]) (.seq (.cond (.t 20) (.skip) (.exit 0)) (.seq (.block 1 (.seq (.reg [ia 21 (.idx 6 (.t 17) (.t 19)),ia 22 (.ldn 6 (.t 21)),ia 5 (.alloc [.c (.i 0),.c (.i 0),.c (.i 0),.c (.i 0),.c (.i 0),.c (.i 0)]),ie (.stn 6 (.t 5) (.t 22))]) (.reg [iv 23 3,ia 24 (.fld 5 (.t 5)),ia 25 (.ld1 (.t 24)),ia 26 (.mn [.t 23,.t 25]),iv 3 26]))) (.reg [ia 27 (.bin .add (.t 19) (kI 1)),iv 19 27]))))))) (.seq (.reg [iv 28 3,iv 2 28]) (.ret)))))
theorem h_impl_ClassOf : Has Try.prog n_impl_ClassOf 29 c_impl_ClassOf [.t 2] := ⟨by decide, Try.f150, _, Try.func150, rfl, rfl, ⟨false, by kernel_rfl⟩, by kernel_rfl⟩
def c_spec_l04Train : SC := .seq (.reg [ia 4 (.alloc [.c (.b false),.nil 1])]) (.seq (.reg [iv 9 0,ia 10 (.call n_spec_l01Once [.t 9,kI 2]),ia 11 (.bld [.c (.b false),.nil 1] [(0,1,.t 10)]),ia 5 (.alloc [.c (.b false),.nil 1]),ie (.stn 2 (.t 5) (.t 11))]) (.seq (.reg [iv 12 0,ia 13 (.call n_spec_l01Below [.t 12,kI 4]),ia 14 (.bin .add (kI 1) (.t 13)),iv 6 14]) (.seq (.seq (.reg [ia 7 (.mv (kI 0))]) (.block 0 (.loop (.seq (.seq (.reg [iv 15 7,iv 16 6,ia 17 (.bin .lss (.t 15) (.t 16))]) (.cond (.t 17) (.skip) (.exit 0))) (.seq (.block 1 (.seq (.reg [iv 20 0,iv 21 1,iv 22 7,ia 23 (.bin .add (.t 21) (.t 22)),ia 24 (.call n_spec_l04Boat [.t 20,.t 23]),ia 8 (.alloc [.c (.i 0),.c (.i 0),.c (.i 0),.c (.i 0),.c (.i 0),.c (.i 0)]),ie (.stn 6 (.t 8) (.t 24))]) (.seq (.reg [iv 25 7,ia 26 (.bin .gtr (.t 25) (kI 0)),iv 27 26,ig 27 true 28 (.mv (.t 0)),ig 27 true 29 (.call n_spec_l01Once [.t 28,kI 2]),ia 30 (.pick (.t 27) (.t 29) (kB false))]) (.cond (.t 30) (.rege [⟨0,true,[],ia 31 (.fld 1 (.t 5))⟩,⟨0,true,[],ia 32 (.ld1 (.t 31))⟩,⟨0,true,[],ia 33 (.fld 1 (.t 5))⟩,⟨0,true,[],ia 34 (.ld1 (.t 33))⟩,⟨0,true,[],ia 35 (.len (.t 34))⟩,⟨0,true,[],ia 36 (.bin .sub (.t 35) (kI 1))⟩,⟨0,false,[],ia 37 (.fld 1 (.t 5))⟩,⟨0,false,[],ia 38 (.ld1 (.t 37))⟩,⟨0,false,[],ia 39 (.fld 1 (.t 5))⟩,⟨0,false,[],ia 40 (.ld1 (.t 39))⟩,⟨0,false,[],ia 41 (.len (.t 40))⟩,⟨0,false,[],ia 42 (.bin .sub (.t 41) (kI 1))⟩,⟨0,false,[],ia 43 (.idx 1 (.t 38) (.t 42))⟩,⟨0,false,[],ia 44 (.ld1 (.t 43))⟩,⟨0,false,[],ia 45 (.ldn 6 (.t 8))⟩,⟨1,false,[],ia 46 (.bsl 6 [.t 45])⟩,⟨2,false,[0,1,2,3,4,5],ia 47 (.app 6 48 (.t 44) (.t 46))⟩,⟨0,false,[],ia 48 (.idx 1 (.t 32) (.t 36))⟩,⟨2,false,[],ie (.st1 (.t 48) (.t 47))⟩]) (.reg [ia 49 (.fld 1 (.t 5)),ia 50 (.ld1 (.t 49)),ia 51 (.ldn 6 (.t 8)),ia 52 (.bsl 6 [.t 51]),ia 53 (.bsl 1 [.t 52]),ia 54 (.app 1 24 (.t 50) (.t 53)),ia 55 (.fld 1 (.t 5)),ie (.st1 (.t 55) (.t 54))]))))) (.reg [iv 18 7,ia 19 (.bin .add (.t 18) (kI 1)),iv 7 19])))))) (.seq (.reg [ia 56 (.ldn 2 (.t 5)),ie (.stn 2 (.t 4) (.t 56))]) (.ret)))))
theorem h_spec_l04Train : Has Try.prog n_spec_l04Train 57 c_spec_l04Train [.cl 4 2] := ⟨by decide, Try.f151, _, Try.func151, rfl, rfl, ⟨false, by kernel_rfl⟩, by kernel_rfl⟩
def c_impl_IdsOf : SC := .seq (.reg [ia 1 (.box 2 (.t 0)),ia 2 (.mv (.k (.nil 1)))]) (.seq (.seq (.reg [ia 6 (.ldn 2 (.t 1)),ia 7 (.call n_impl_TrainOk [.t 6]),ia 8 (.not (.t 7))]) (.cond (.t 8) (.seq (.reg [ia 2 (.mv (.k (.nil 1)))]) (.ret)) (.skip))) (.seq (.reg [ia 3 (.mv (.k (.nil 1)))]) (.seq (.seq (.reg [ia 9 (.ldn 2 (.t 1)),ia 10 (.call n_impl_boatsOf [.t 9]),ia 11 (.len (.t 10)),ia 12 (.mv (kI 0))]) (.block 0 (.loop (.seq (.reg [ia 13 (.bin .lss (.t 12) (.t 11))]) (.seq (.cond (.t 13) (.skip) (.exit 0)) (.seq (.block 1 (.seq (.reg [ia 14 (.idx 6 (.t 10) (.t 12)),ia 15 (.ldn 6 (.t 14)),ia 5 (.alloc [.c (.i 0),.c (.i 0),.c (.i 0),.c (.i 0),.c (.i 0),.c (.i 0)]),ie (.stn 6 (.t 5) (.t 15))]) (.reg [iv 16 3,ia 17 (.fld 0 (.t 5)),ia 18 (.ld1 (.t 17)),ia 19 (.bsl 1 [.t 18]),ia 20 (.app 1 8 (.t 16) (.t 19)),iv 3 20]))) (.reg [ia 21 (.bin .add (.t 12) (kI 1)),iv 12 21]))))))) (.seq (.reg [iv 22 3,iv 2 22]) (.ret)))))
theorem h_impl_IdsOf : Has Try.prog n_impl_IdsOf 23 c_impl_IdsOf [.t 2] := ⟨by decide, Try.f155, _, Try.func155, rfl, rfl, ⟨false, by kernel_rfl⟩, by kernel_rfl⟩
def small_IntS : List Int → Prop := smallS fun _ => True
structure Point where
  X : Int
  Y : Int
  deriving DecidableEq, Inhabited
@[simp] def Point.enc (e : Point) : List C := [.i e.X, .i e.Y]
-- Point
def small_PointS : List Point → Prop := smallS fun _ => True
structure Reach where
  Table : List Point
  Volume : Int
  Pipe : List Int
  deriving DecidableEq, Inhabited
@[simp] def Reach.enc (e : Reach) : List C := [.sl 2 (e.Table.map Point.enc), .i e.Volume, .sl 1 (e.Pipe.map ienc)]
-- Reach
def Reach.small (e : Reach) : Prop := small_PointS e.Table ∧ small_IntS e.Pipe
def c_impl_RankOf : SC := .seq (.reg [ia 2 (.box 4 (.t 0)),ia 4 (.mv (kI 0))]) (.seq (.seq (.reg [ia 5 (.ldn 4 (.t 2)),ia 6 (.call n_impl_CallOk [.t 5]),ia 7 (.not (.t 6)),iv 8 7,ig 8 false 9 (.mv (.t 1)),ig 8 false 10 (.fld 2 (.t 2)),ig 8 false 11 (.ld1 (.t 10)),ig 8 false 12 (.call n_impl_inRange [.t 9,.t 11,kI 1000000]),ig 8 false 13 (.not (.t 12)),ia 14 (.pick (.t 8) (kB true) (.t 13))]) (.cond (.t 14) (.seq (.reg [ia 4 (.mv (kI 3))]) (.ret)) (.skip))) (.seq (.seq (.reg [ia 15 (.fld 3 (.t 2)),ia 16 (.ld1 (.t 15)),ia 17 (.bin .neq (.t 16) (kI (-1))),iv 18 17,ig 18 true 19 (.fld 3 (.t 2)),ig 18 true 20 (.ld1 (.t 19)),ig 18 true 21 (.mv (.t 1)),ig 18 true 22 (.bin .leq (.t 20) (.t 21)),ia 23 (.pick (.t 18) (.t 22) (kB false))]) (.cond (.t 23) (.seq (.reg [ia 4 (.mv (kI (-1)))]) (.ret)) (.skip))) (.seq (.regq [ia 24 (.fld 0 (.t 2)),ia 25 (.ldn 2 (.t 24)),ia 26 (.call n_impl_ClassOf [.t 25]),iv 27 1,ia 28 (.fld 2 (.t 2)),ia 29 (.ld1 (.t 28)),ia 30 (.bin .sub (.t 27) (.t 29)),ia 31 (.bin .quo (.t 30) (kI 20)),ia 32 (.bin .sub (.t 26) (.t 31)),ia 33 (.mx [kI 0,.t 32]),iv 4 33]) (.ret))))
theorem h_impl_RankOf : Has Try.prog n_impl_RankOf 34 c_impl_RankOf [.t 4] := ⟨by decide, Try.f166, _, Try.func166, rfl, rfl, ⟨false, by kernel_rfl⟩, by kernel_rfl⟩
def c_slices_SortStableFunc___int_int_ : SC := .reg [iv 4 0,iv 5 0,ia 6 (.len (.t 5)),iv 7 1,ia 8 (.call n_slices_stableCmpFunc_int_ [.t 4,.t 6,.t 7])]
theorem h_slices_SortStableFunc___int_int_ : Has Try.prog n_slices_SortStableFunc___int_int_ 9 c_slices_SortStableFunc___int_int_ [] := ⟨by decide, Try.f167, _, Try.func167, rfl, rfl, ⟨false, by kernel_rfl⟩, by kernel_rfl⟩
def c_impl_OrderCalls_1 : SC := .seq (.reg [ia 6 (.mv (kI 0))]) (.seq (.seq (.regq [ia 7 (.ld1 (.t 2)),iv 8 0,ia 9 (.idx 4 (.t 7) (.t 8)),ia 10 (.ldn 4 (.t 9)),ia 11 (.ld1 (.t 2)),iv 12 1,ia 13 (.idx 4 (.t 11) (.t 12)),ia 14 (.ldn 4 (.t 13)),ia 15 (.ld1 (.t 3)),ia 16 (.call n_impl_ComesBefore [.t 10,.t 14,.t 15])]) (.cond (.t 16) (.seq (.reg [ia 6 (.mv (kI (-1)))]) (.ret)) (.skip))) (.seq (.seq (.regq [ia 17 (.ld1 (.t 2)),iv 18 1,ia 19 (.idx 4 (.t 17) (.t 18)),ia 20 (.ldn 4 (.t 19)),ia 21 (.ld1 (.t 2)),iv 22 0,ia 23 (.idx 4 (.t 21) (.t 22)),ia 24 (.ldn 4 (.t 23)),ia 25 (.ld1 (.t 3)),ia 26 (.call n_impl_ComesBefore [.t 20,.t 24,.t 25])]) (.cond (.t 26) (.seq (.reg [ia 6 (.mv (kI 1))]) (.ret)) (.skip))) (.seq (.reg [ia 6 (.mv (kI 0))]) (.ret))))
theorem h_impl_OrderCalls_1 : Has Try.prog n_impl_OrderCalls_1 27 c_impl_OrderCalls_1 [.t 6] := ⟨by decide, Try.f168, _, Try.func168, rfl, rfl, ⟨false, by kernel_rfl⟩, by kernel_rfl⟩
def c_impl_ComesBefore : SC := .seq (.reg [ia 3 (.box 4 (.t 0)),ia 4 (.box 4 (.t 1)),ia 6 (.mv (kB false))]) (.seq (.regq [ia 9 (.ldn 4 (.t 3)),iv 10 2,ia 11 (.call n_impl_RankOf [.t 9,.t 10]),ia 12 (.ldn 4 (.t 4)),iv 13 2,ia 14 (.call n_impl_RankOf [.t 12,.t 13]),iv 7 11,iv 8 14]) (.seq (.seq (.reg [iv 15 7,ia 16 (.bin .eql (.t 15) (kI 3)),iv 17 16,ig 17 false 18 (.mv (.t 8)),ig 17 false 19 (.bin .eql (.t 18) (kI 3)),ia 20 (.pick (.t 17) (kB true) (.t 19))]) (.cond (.t 20) (.seq (.reg [ia 6 (.mv (kB false))]) (.ret)) (.skip))) (.seq (.seq (.reg [iv 21 7,iv 22 8,ia 23 (.bin .neq (.t 21) (.t 22))]) (.cond (.t 23) (.seq (.reg [iv 24 7,iv 25 8,ia 26 (.bin .lss (.t 24) (.t 25)),iv 6 26]) (.ret)) (.skip))) (.seq (.seq (.reg [iv 27 7,ia 28 (.bin .eql (.t 27) (kI (-1))),iv 29 28,ig 29 true 30 (.fld 3 (.t 3)),ig 29 true 31 (.ld1 (.t 30)),ig 29 true 32 (.fld 3 (.t 4)),ig 29 true 33 (.ld1 (.t 32)),ig 29 true 34 (.bin .neq (.t 31) (.t 33)),ia 35 (.pick (.t 29) (.t 34) (kB false))]) (.cond (.t 35) (.seq (.reg [ia 36 (.fld 3 (.t 3)),ia 37 (.ld1 (.t 36)),ia 38 (.fld 3 (.t 4)),ia 39 (.ld1 (.t 38)),ia 40 (.bin .lss (.t 37) (.t 39)),iv 6 40]) (.ret)) (.skip))) (.seq (.seq (.reg [ia 41 (.fld 2 (.t 3)),ia 42 (.ld1 (.t 41)),ia 43 (.fld 2 (.t 4)),ia 44 (.ld1 (.t 43)),ia 45 (.bin .neq (.t 42) (.t 44))]) (.cond (.t 45) (.seq (.reg [ia 46 (.fld 2 (.t 3)),ia 47 (.ld1 (.t 46)),ia 48 (.fld 2 (.t 4)),ia 49 (.ld1 (.t 48)),ia 50 (.bin .lss (.t 47) (.t 49)),iv 6 50]) (.ret)) (.skip))) (.seq (.regq [ia 51 (.fld 0 (.t 3)),ia 52 (.ldn 2 (.t 51)),ia 53 (.call n_impl_IdsOf [.t 52]),ia 54 (.idx 1 (.t 53) (kI 0)),ia 55 (.ld1 (.t 54)),ia 56 (.fld 0 (.t 4)),ia 57 (.ldn 2 (.t 56)),ia 58 (.call n_impl_IdsOf [.t 57]),ia 59 (.idx 1 (.t 58) (kI 0)),ia 60 (.ld1 (.t 59)),ia 61 (.bin .lss (.t 55) (.t 60)),iv 6 61]) (.ret)))))))
theorem h_impl_ComesBefore : Has Try.prog n_impl_ComesBefore 62 c_impl_ComesBefore [.t 6] := ⟨by decide, Try.f169, _, Try.func169, rfl, rfl, ⟨false, by kernel_rfl⟩, by kernel_rfl⟩
def c_impl_CallOk : SC := .seq (.reg [ia 1 (.box 4 (.t 0)),ia 2 (.mv (kB false))]) (.seq (.reg [ia 3 (.fld 0 (.t 1)),ia 4 (.ldn 2 (.t 3)),ia 5 (.call n_impl_TrainOk [.t 4]),iv 6 5,ig 6 true 7 (.fld 2 (.t 1)),ig 6 true 8 (.ld1 (.t 7)),ig 6 true 9 (.call n_impl_inRange [.t 8,kI 0,kI 1000000]),ia 10 (.pick (.t 6) (.t 9) (kB false)),iv 11 10,ig 11 true 12 (.fld 3 (.t 1)),ig 11 true 13 (.ld1 (.t 12)),ig 11 true 14 (.call n_impl_inRange [.t 13,kI (-1),kI 1000000]),ia 15 (.pick (.t 11) (.t 14) (kB false)),iv 2 15]) (.ret))
theorem h_impl_CallOk : Has Try.prog n_impl_CallOk 16 c_impl_CallOk [.t 2] := ⟨by decide, Try.f186, _, Try.func186, rfl, rfl, ⟨false, by kernel_rfl⟩, by kernel_rfl⟩
def c_spec_l01PickInt : SC := .seq (.reg [ia 4 (.mv (kI 0))]) (.seq (.reg [iv 5 1,iv 6 0,iv 7 1,ia 8 (.len (.t 7)),ia 9 (.call n_spec_l01Below [.t 6,.t 8]),ia 10 (.idx 1 (.t 5) (.t 9)),ia 11 (.ld1 (.t 10)),iv 4 11]) (.ret))
theorem h_spec_l01PickInt : Has Try.prog n_spec_l01PickInt 12 c_spec_l01PickInt [.t 4] := ⟨by decide, Try.f197, _, Try.func197, rfl, rfl, ⟨false, by kernel_rfl⟩, by kernel_rfl⟩
def c_spec_l01Once : SC := .seq (.reg [ia 4 (.mv (kB false))]) (.seq (.reg [iv 5 0,iv 6 1,ia 7 (.call n_spec_l01Below [.t 5,.t 6]),ia 8 (.bin .eql (.t 7) (kI 0)),iv 4 8]) (.ret))
theorem h_spec_l01Once : Has Try.prog n_spec_l01Once 9 c_spec_l01Once [.t 4] := ⟨by decide, Try.f214, _, Try.func214, rfl, rfl, ⟨false, by kernel_rfl⟩, by kernel_rfl⟩
def c_spec_l04Boat : SC := .seq (.reg [ia 4 (.alloc [.c (.i 0),.c (.i 0),.c (.i 0),.c (.i 0),.c (.i 0),.c (.i 0)])]) (.seq (.reg [iv 5 1,iv 6 0,ia 7 (.bsl 1 [kI 5,kI 12,kI 30,kI 80]),ia 8 (.call n_spec_l01PickInt [.t 6,.t 7]),iv 9 0,ia 10 (.call n_spec_l01Below [.t 9,kI 9]),ia 11 (.bin .add (kI 1) (.t 10)),iv 12 0,ia 13 (.call n_spec_l01Below [.t 12,kI 30]),ia 14 (.bin .add (kI 1) (.t 13)),iv 15 0,ia 16 (.call n_spec_l01Below [.t 15,kI 12]),ia 17 (.bin .add (kI 1) (.t 16)),iv 18 0,ia 19 (.call n_spec_l01Below [.t 18,kI 3]),ia 20 (.bld [.c (.i 0),.c (.i 0),.c (.i 0),.c (.i 0),.c (.i 0),.c (.i 0)] [(0,1,.t 5),(1,1,.t 8),(2,1,.t 11),(3,1,.t 14),(4,1,.t 17),(5,1,.t 19)]),ie (.stn 6 (.t 4) (.t 20))]) (.ret))
theorem h_spec_l04Boat : Has Try.prog n_spec_l04Boat 21 c_spec_l04Boat [.cl 4 6] := ⟨by decide, Try.f215, _, Try.func215, rfl, rfl, ⟨false, by kernel_rfl⟩, by kernel_rfl⟩
def c_slices_stableCmpFunc_int_ : SC := .seq (.reg [ia 6 (.mv (kI 20))]) (.seq (.reg [iv 10 6,ia 7 (.mv (kI 0)),iv 8 10]) (.seq (.block 0 (.loop (.seq (.seq (.reg [iv 11 8,iv 12 1,ia 13 (.bin .leq (.t 11) (.t 12))]) (.cond (.t 13) (.skip) (.exit 0))) (.block 1 (.seq (.reg [iv 14 0,iv 15 7,iv 16 8,iv 17 2,ia 18 (.call n_slices_insertionSortCmpFunc_int_ [.t 14,.t 15,.t 16,.t 17])]) (.seq (.reg [iv 19 8,iv 7 19]) (.reg [iv 20 8,iv 21 6,ia 22 (.bin .add (.t 20) (.t 21)),iv 8 22]))))))) (.seq (.reg [iv 23 0,iv 24 7,iv 25 1,iv 26 2,ia 27 (.call n_slices_insertionSortCmpFunc_int_ [.t 23,.t 24,.t 25,.t 26])]) (.block 2 (.loop (.seq (.seq (.reg [iv 28 6,iv 29 1,ia 30 (.bin .lss (.t 28) (.t 29))]) (.cond (.t 30) (.skip) (.exit 2))) (.block 3 (.seq (.reg [iv 31 6,ia 32 (.bin .mul (kI 2) (.t 31)),ia 7 (.mv (kI 0)),iv 8 32]) (.seq (.block 4 (.loop (.seq (.seq (.reg [iv 33 8,iv 34 1,ia 35 (.bin .leq (.t 33) (.t 34))]) (.cond (.t 35) (.skip) (.exit 4))) (.block 5 (.seq (.reg [iv 36 0,iv 37 7,iv 38 7,iv 39 6,ia 40 (.bin .add (.t 38) (.t 39)),iv 41 8,iv 42 2,ia 43 (.call n_slices_symMergeCmpFunc_int_ [.t 36,.t 37,.t 40,.t 41,.t 42])]) (.seq (.reg [iv 44 8,iv 7 44]) (.reg [iv 45 8,iv 46 6,ia 47 (.bin .mul (kI 2) (.t 46)),ia 48 (.bin .add (.t 45) (.t 47)),iv 8 48]))))))) (.seq (.seq (.reg [iv 49 7,iv 50 6,ia 51 (.bin .add (.t 49) (.t 50)),iv 9 51]) (.seq (.reg [iv 52 9,iv 53 1,ia 54 (.bin .lss (.t 52) (.t 53))]) (.cond (.t 54) (.reg [iv 55 0,iv 56 7,iv 57 9,iv 58 1,iv 59 2,ia 60 (.call n_slices_symMergeCmpFunc_int_ [.t 55,.t 56,.t 57,.t 58,.t 59])]) (.skip)))) (.reg [iv 61 6,ia 62 (.bin .mul (.t 61) (kI 2)),iv 6 62])))))))))))
theorem h_slices_stableCmpFunc_int_ : Has Try.prog n_slices_stableCmpFunc_int_ 63 c_slices_stableCmpFunc_int_ [] := ⟨by decide, Try.f218, _, Try.func218, rfl, rfl, ⟨false, by kernel_rfl⟩, by kernel_rfl⟩
def c_slices_insertionSortCmpFunc_int_ : SC := .seq (.reg [iv 10 1,ia 11 (.bin .add (.t 10) (kI 1)),iv 8 11]) (.block 0 (.loop (.seq (.seq (.reg [iv 12 8,iv 13 2,ia 14 (.bin .lss (.t 12) (.t 13))]) (.cond (.t 14) (.skip) (.exit 0))) (.seq (.block 1 (.seq (.reg [iv 17 8,iv 9 17]) (.block 2 (.loop (.seq (.seq (.regq [iv 18 9,iv 19 1,ia 20 (.bin .gtr (.t 18) (.t 19)),iv 21 20,ig 21 true 22 (.mv (.t 3)),ig 21 true 23 (.mv (.t 0)),ig 21 true 24 (.mv (.t 9)),ig 21 true 25 (.idx 1 (.t 23) (.t 24)),ig 21 true 26 (.ld1 (.t 25)),ig 21 true 27 (.mv (.t 0)),ig 21 true 28 (.mv (.t 9)),ig 21 true 29 (.bin .sub (.t 28) (kI 1)),ig 21 true 30 (.idx 1 (.t 27) (.t 29)),ig 21 true 31 (.ld1 (.t 30)),ig 21 true 32 (.callv (.t 22) [.t 26,.t 31]),ig 21 true 33 (.bin .lss (.t 32) (kI 0)),ia 34 (.pick (.t 21) (.t 33) (kB false))]) (.cond (.t 34) (.skip) (.exit 2))) (.seq (.block 3 (.rege [⟨0,false,[],iv 37 0⟩,⟨0,false,[],iv 38 9⟩,⟨0,true,[],iv 39 0⟩,⟨0,true,[],iv 40 9⟩,⟨0,true,[],ia 41 (.bin .sub (.t 40) (kI 1))⟩,⟨0,false,[],iv 42 0⟩,⟨0,false,[],iv 43 9⟩,⟨0,false,[],ia 44 (.bin .sub (.t 43) (kI 1))⟩,⟨0,false,[],ia 45 (.idx 1 (.t 42) (.t 44))⟩,⟨0,false,[],ia 46 (.ld1 (.t 45))⟩,⟨0,false,[],iv 47 0⟩,⟨0,false,[],iv 48 9⟩,⟨0,false,[],ia 49 (.idx 1 (.t 47) (.t 48))⟩,⟨0,false,[],ia 50 (.ld1 (.t 49))⟩,⟨0,false,[],ia 51 (.idx 1 (.t 37) (.t 38))⟩,⟨2,false,[2,3,4],ie (.st1 (.t 51) (.t 46))⟩,⟨0,false,[],ia 52 (.idx 1 (.t 39) (.t 41))⟩,⟨2,false,[],ie (.st1 (.t 52) (.t 50))⟩])) (.reg [iv 35 9,ia 36 (.bin .sub (.t 35) (kI 1)),iv 9 36]))))))) (.reg [iv 15 8,ia 16 (.bin .add (.t 15) (kI 1)),iv 8 16])))))
theorem h_slices_insertionSortCmpFunc_int_ : Has Try.prog n_slices_insertionSortCmpFunc_int_ 53 c_slices_insertionSortCmpFunc_int_ [] := ⟨by decide, Try.f234, _, Try.func234, rfl, rfl, ⟨false, by kernel_rfl⟩, by kernel_rfl⟩
def ClassOf (t : Train) : Int := if TrainOk t then minOf Boat.Class t.boats (firstOf Boat.Class t.boats) else -1
theorem ClassOf_in {t : Train} (h : TrainOk t = true) : 0 ≤ ClassOf t ∧ ClassOf t ≤ 2 := by
  unfold ClassOf
  rw [if_pos h]
  have hf := trainFacts h
  obtain ⟨r, b0, e1, e2, e3⟩ := first_row hf
  have := boatFacts (hf.ok b0 (List.mem_of_getElem? e3))
  exact minOf_in (fun x hx => by have := boatFacts (hf.ok x hx); omega) (by rw [get0 e3]; omega) (by rw [get0 e3]; omega)
theorem ClassOf_impl (t : Train) (h : t.small) : PureF Try.prog n_impl_ClassOf [.agg (t.enc.map .c)] (.c (.i (ClassOf t))) := by
  refine pure_of h_impl_ClassOf (by simp) fun hwf => ?_
  simp -dsimp -implicitDefEqProofs [c_impl_ClassOf]
  refine call_lend (TrainOk_impl t h) (by simp) rfl ?_
  simp -dsimp -implicitDefEqProofs
  refine ⟨fun h1 => by simp [ClassOf, h1], fun h1 => ?_⟩
  obtain ⟨r, b0, e1, e2, e3⟩ := first_row (trainFacts h1)
  have l1 : 0 < t.Rows.length := (List.getElem?_eq_some_iff.1 e1).1
  have l2 : 0 < r.length := (List.getElem?_eq_some_iff.1 e2).1
  have f1 := (List.getElem?_eq_some_iff.1 e1).2
  have f2 := (List.getElem?_eq_some_iff.1 e2).2
  simp -dsimp -implicitDefEqProofs [e1, e2, l1, l2, f1, f2]
  refine call_pure (boatsOf_c t h) (by simp) rfl ?_
  simp -dsimp -implicitDefEqProofs
  intro hlen
  refine loop_rule (ι := Nat) (fun k => k ≤ t.boats.length) (fun k => stOf [(3, .c (.i (minTo Boat.Class t.boats b0.Class k))), (17, .c (.sl 6 (t.boats.map Boat.enc))), (18, .c (.i t.boats.length)), (19, .c (.i k))] []) (fun k => t.boats.length - k) 0 (by simp) (by apply le_of <;> simp [AV.refs1, AV.ref0, Obj.refs1, minTo_zero]) ?_
  rintro k hk
  rcases Nat.lt_or_ge k t.boats.length with hlt | hge
  · obtain ⟨b, hb⟩ : ∃ b, t.boats[k]? = some b := ⟨_, List.getElem?_eq_getElem hlt⟩
    simp -dsimp -implicitDefEqProofs [hb, lt_t hlt]
    refine ⟨inI_succ hlt hlen, k + 1, hlt, by omega, ?_⟩
    apply le_of <;> simp [AV.refs1, AV.ref0, Obj.refs1, minTo_succ hb]
  · simp -dsimp -implicitDefEqProofs [lt_f hge]
    simp [ClassOf, h1, minTo_all hge, get0 e3]
theorem take_all0 {α β : Type} {f : α → β} {l : List α} : (l.map f).take l.length = l.map f := List.take_of_length_le (by simp)
def IdsOf (t : Train) : List Int := if TrainOk t then t.boats.map idOf else []
def idsTo2 (t : Train) (k : Nat) : List Int := (t.boats.take k).map idOf
theorem idsTo2_zero {t : Train} : idsTo2 t 0 = [] := rfl
theorem idsTo2_succ {t : Train} {k : Nat} {b : Boat} (h : t.boats[k]? = some b) : idsTo2 t (k + 1) = idsTo2 t k ++ [b.Id] := by
  unfold idsTo2; rw [List.take_succ, h, List.map_append]; rfl
theorem idsTo2_all {t : Train} {k : Nat} (h : t.boats.length ≤ k) : idsTo2 t k = t.boats.map idOf := by
  unfold idsTo2; rw [List.take_of_length_le h]
theorem idsTo2_len {t : Train} {k : Nat} (h : k ≤ t.boats.length) : (idsTo2 t k).length = k := by
  unfold idsTo2; simp; omega
theorem IdsOf_implP (t : Train) (h : t.small) : PureF Try.prog n_impl_IdsOf [.agg (t.enc.map .c)] (.c (.sl 1 ((IdsOf t).map ienc))) := by
  refine pure_of h_impl_IdsOf (by simp) fun hwf => ?_
  simp -dsimp -implicitDefEqProofs [c_impl_IdsOf]
  first
    | refine call_lend (TrainOk_impl t h) (by simp) rfl ?_
    | refine call_pure (TrainOk_impl t h) (by simp) rfl ?_
    | refine ⟨_, _, TrainOk_impl t h, by simp, .inr rfl, ?_⟩
    | refine ⟨_, _, TrainOk_impl t h, by simp, .inl rfl, ?_⟩
    | refine callE_pure (TrainOk_impl t h) (by simp) (.inr rfl) ?_
    | refine callE_pure (TrainOk_impl t h) (by simp) (.inl rfl) ?_
  cases h1 : TrainOk t with
  | false => simp -dsimp -implicitDefEqProofs; simp [IdsOf, h1]
  | true =>
    have tf := trainFacts h1
    have h6 := tf.len
    simp -dsimp -implicitDefEqProofs
    first
      | refine call_lend (boatsOf_c t h) (by simp) rfl ?_
      | refine call_pure (boatsOf_c t h) (by simp) rfl ?_
      | refine ⟨_, _, boatsOf_c t h, by simp, .inr rfl, ?_⟩
      | refine ⟨_, _, boatsOf_c t h, by simp, .inl rfl, ?_⟩
      | refine callE_pure (boatsOf_c t h) (by simp) (.inr rfl) ?_
      | refine callE_pure (boatsOf_c t h) (by simp) (.inl rfl) ?_
    simp -dsimp -implicitDefEqProofs
    intro hlen
    refine virt_rule (k0 := 1) 3 1 (by simp) (by simp) (by decide) ?_
    refine loop_rule (ι := Nat) (fun k => k ≤ t.boats.length) (fun k => stOf [(3, .own 3 1 (idsTo2 t k).length), (10, .c (.sl 6 (t.boats.map Boat.enc))), (11, .c (.i t.boats.length)), (12, .c (.i k))] [(3, .row 1 ((idsTo2 t k).map ienc))]) (fun k => t.boats.length - k) 0 (by simp) (by apply le_of <;> simp [AV.refs1, AV.ref0, Obj.refs1, idsTo2_zero]) ?_
    rintro k hk
    have hkl := idsTo2_len hk
    rcases Nat.lt_or_ge k t.boats.length with hlt | hge
    · obtain ⟨b, hb⟩ : ∃ b, t.boats[k]? = some b := ⟨_, List.getElem?_eq_getElem hlt⟩
      simp -dsimp -implicitDefEqProofs [hb, lt_t hlt]
      refine ⟨by omega, inI_succ hlt hlen, k + 1, hlt, by omega, ?_⟩
      apply le_of <;> simp [AV.refs1, AV.ref0, Obj.refs1, idsTo2_succ hb]
    · simp -dsimp -implicitDefEqProofs [lt_f hge]
      rw [take_all0, idsTo2_all hge]
      simp [IdsOf, h1]
def small_TrainS : List Train → Prop := smallS Train.small
structure Lock where
  Length : Int
  Width : Int
  SillAbove : Int
  SillBelow : Int
  Base : Int
  Area : Int
  Rate : Int
  Water : Int
  Gate : Int
  Inside : List Train
  deriving DecidableEq, Inhabited
@[simp] def Lock.enc (e : Lock) : List C := [.i e.Length, .i e.Width, .i e.SillAbove, .i e.SillBelow, .i e.Base, .i e.Area, .i e.Rate, .i e.Water, .i e.Gate, .sl 2 (e.Inside.map Train.enc)]
-- Lock
def Lock.small (e : Lock) : Prop := small_TrainS e.Inside
structure Weir where
  Gates : Int
  Open : Int
  Step : Int
  Crest : Int
  Width : Int
  deriving DecidableEq, Inhabited
@[simp] def Weir.enc (e : Weir) : List C := [.i e.Gates, .i e.Open, .i e.Step, .i e.Crest, .i e.Width]
-- Weir
structure Rule where
  Low : Int
  High : Int
  Flood : Int
  deriving DecidableEq, Inhabited
@[simp] def Rule.enc (e : Rule) : List C := [.i e.Low, .i e.High, .i e.Flood]
-- Rule
structure Pause where
  From : Int
  Until : Int
  deriving DecidableEq, Inhabited
@[simp] def Pause.enc (e : Pause) : List C := [.i e.From, .i e.Until]
-- Pause
def small_PauseS : List Pause → Prop := smallS fun _ => True
structure Turn where
  Up : Bool
  Count : Int
  deriving DecidableEq, Inhabited
@[simp] def Turn.enc (e : Turn) : List C := [.b e.Up, .i e.Count]
-- Turn
structure CallT where
  Train : Train
  Since : Int
  Booked : Int
  deriving DecidableEq, Inhabited
@[simp] def CallT.enc (e : CallT) : List C := [.b e.Train.Up, .sl 1 (e.Train.Rows.map enc_BoatS), .i e.Since, .i e.Booked]
-- Call
def CallT.small (e : CallT) : Prop := e.Train.small
def small_CallS : List CallT → Prop := smallS CallT.small
structure Work where
  Lock : Lock
  Weir : Weir
  Rule : Rule
  Pauses : List Pause
  Turn : Turn
  Calls : List CallT
  deriving DecidableEq, Inhabited
@[simp] def Work.enc (e : Work) : List C := [.i e.Lock.Length, .i e.Lock.Width, .i e.Lock.SillAbove, .i e.Lock.SillBelow, .i e.Lock.Base, .i e.Lock.Area, .i e.Lock.Rate, .i e.Lock.Water, .i e.Lock.Gate, .sl 2 (e.Lock.Inside.map Train.enc), .i e.Weir.Gates, .i e.Weir.Open, .i e.Weir.Step, .i e.Weir.Crest, .i e.Weir.Width, .i e.Rule.Low, .i e.Rule.High, .i e.Rule.Flood, .sl 2 (e.Pauses.map Pause.enc), .b e.Turn.Up, .i e.Turn.Count, .sl 4 (e.Calls.map CallT.enc)]
-- Work
def Work.small (e : Work) : Prop := e.Lock.small ∧ small_PauseS e.Pauses ∧ small_CallS e.Calls
def TurnOk (t : Turn) : Bool := inRange t.Count 0 1000000
theorem TurnOk_impl (t : Turn) : PureF Try.prog n_impl_TurnOk [.agg (t.enc.map .c)] (.c (.b (TurnOk t))) := by
  refine pure_of h_impl_TurnOk (by simp) fun hwf => ?_
  simp -dsimp -implicitDefEqProofs [c_impl_TurnOk]
  first
    | refine call_lend (inRange_impl t.Count 0 1000000) (by simp) rfl ?_
    | refine call_pure (inRange_impl t.Count 0 1000000) (by simp) rfl ?_
    | refine ⟨_, _, inRange_impl t.Count 0 1000000, by simp, .inr rfl, ?_⟩
    | refine ⟨_, _, inRange_impl t.Count 0 1000000, by simp, .inl rfl, ?_⟩
    | refine callE_pure (inRange_impl t.Count 0 1000000) (by simp) (.inr rfl) ?_
    | refine callE_pure (inRange_impl t.Count 0 1000000) (by simp) (.inl rfl) ?_
  simp -dsimp -implicitDefEqProofs
  try rfl
def CallOk (c : CallT) : Bool := TrainOk c.Train && inRange c.Since 0 1000000 && inRange c.Booked (-1) 1000000
theorem CallOk_impl (c : CallT) (h : c.small) : PureF Try.prog n_impl_CallOk [.agg (c.enc.map .c)] (.c (.b (CallOk c))) := by
  refine pure_of h_impl_CallOk (by simp) fun hwf => ?_
  simp -dsimp -implicitDefEqProofs [c_impl_CallOk]
  first
    | refine call_lend (TrainOk_impl c.Train h) (by simp) rfl ?_
    | refine call_pure (TrainOk_impl c.Train h) (by simp) rfl ?_
    | refine ⟨_, _, TrainOk_impl c.Train h, by simp, .inr rfl, ?_⟩
    | refine ⟨_, _, TrainOk_impl c.Train h, by simp, .inl rfl, ?_⟩
    | refine callE_pure (TrainOk_impl c.Train h) (by simp) (.inr rfl) ?_
    | refine callE_pure (TrainOk_impl c.Train h) (by simp) (.inl rfl) ?_
  cases h0 : TrainOk c.Train with
  | false => simp -dsimp -implicitDefEqProofs; simp [CallOk, h0]
  | true =>
  simp -dsimp -implicitDefEqProofs
  first
    | refine call_lend (inRange_impl c.Since 0 1000000) (by simp) rfl ?_
    | refine call_pure (inRange_impl c.Since 0 1000000) (by simp) rfl ?_
    | refine ⟨_, _, inRange_impl c.Since 0 1000000, by simp, .inr rfl, ?_⟩
    | refine ⟨_, _, inRange_impl c.Since 0 1000000, by simp, .inl rfl, ?_⟩
    | refine callE_pure (inRange_impl c.Since 0 1000000) (by simp) (.inr rfl) ?_
    | refine callE_pure (inRange_impl c.Since 0 1000000) (by simp) (.inl rfl) ?_
  cases h1 : inRange c.Since 0 1000000 with
  | false => simp -dsimp -implicitDefEqProofs; simp [CallOk, h0, h1]
  | true =>
  simp -dsimp -implicitDefEqProofs
  first
    | refine call_lend (inRange_impl c.Booked (-1) 1000000) (by simp) rfl ?_
    | refine call_pure (inRange_impl c.Booked (-1) 1000000) (by simp) rfl ?_
    | refine ⟨_, _, inRange_impl c.Booked (-1) 1000000, by simp, .inr rfl, ?_⟩
    | refine ⟨_, _, inRange_impl c.Booked (-1) 1000000, by simp, .inl rfl, ?_⟩
    | refine callE_pure (inRange_impl c.Booked (-1) 1000000) (by simp) (.inr rfl) ?_
    | refine callE_pure (inRange_impl c.Booked (-1) 1000000) (by simp) (.inl rfl) ?_
  cases h2 : inRange c.Booked (-1) 1000000 with
  | false => simp -dsimp -implicitDefEqProofs; simp [CallOk, h0, h1, h2]
  | true =>
    simp -dsimp -implicitDefEqProofs; simp [CallOk, h0, h1, h2]
def RankOf (c : CallT) (now : Int) : Int :=
  if CallOk c = true ∧ inRange now c.Since 1000000 = true then
    if c.Booked ≠ -1 ∧ c.Booked ≤ now then -1 else if (now - c.Since).tdiv 20 < ClassOf c.Train then ClassOf c.Train - (now - c.Since).tdiv 20 else 0
  else 3
structure CallFacts (c : CallT) : Prop where
  tr : TrainOk c.Train = true
  cls : 0 ≤ ClassOf c.Train ∧ ClassOf c.Train ≤ 2
  snc : 0 ≤ c.Since ∧ c.Since ≤ 1000000
  bkd : -1 ≤ c.Booked ∧ c.Booked ≤ 1000000
theorem callFacts {c : CallT} (h : CallOk c = true) : CallFacts c := by
  simp only [CallOk, Bool.and_eq_true] at h
  obtain ⟨⟨h1, h2⟩, h3⟩ := h
  exact ⟨h1, ClassOf_in h1, inRange_iff.1 h2, inRange_iff.1 h3⟩
theorem RankOf_impl (c : CallT) (now : Int) (h : c.small) : PureF Try.prog n_impl_RankOf [.agg (c.enc.map .c), .c (.i now)] (.c (.i (RankOf c now))) := by
  refine pure_of h_impl_RankOf (by simp) fun hwf => ?_
  simp -dsimp -implicitDefEqProofs [c_impl_RankOf]
  first
    | refine call_lend (CallOk_impl c h) (by simp) rfl ?_
    | refine call_pure (CallOk_impl c h) (by simp) rfl ?_
    | refine ⟨_, _, CallOk_impl c h, by simp, .inr rfl, ?_⟩
    | refine ⟨_, _, CallOk_impl c h, by simp, .inl rfl, ?_⟩
    | refine callE_pure (CallOk_impl c h) (by simp) (.inr rfl) ?_
    | refine callE_pure (CallOk_impl c h) (by simp) (.inl rfl) ?_
  cases h1 : CallOk c with
  | false => simp -dsimp -implicitDefEqProofs; simp [RankOf, h1]
  | true =>
  have cf := callFacts h1
  have f1 := cf.cls; have f2 := cf.snc; have f3 := cf.bkd
  simp -dsimp -implicitDefEqProofs
  first
    | refine call_lend (inRange_impl now c.Since 1000000) (by simp) rfl ?_
    | refine call_pure (inRange_impl now c.Since 1000000) (by simp) rfl ?_
    | refine ⟨_, _, inRange_impl now c.Since 1000000, by simp, .inr rfl, ?_⟩
    | refine ⟨_, _, inRange_impl now c.Since 1000000, by simp, .inl rfl, ?_⟩
    | refine callE_pure (inRange_impl now c.Since 1000000) (by simp) (.inr rfl) ?_
    | refine callE_pure (inRange_impl now c.Since 1000000) (by simp) (.inl rfl) ?_
  cases h2 : inRange now c.Since 1000000 with
  | false => simp -dsimp -implicitDefEqProofs; simp [RankOf, h1, h2]
  | true =>
  have r2 := inRange_iff.1 h2
  have hq : 0 ≤ (now - c.Since).tdiv 20 ∧ (now - c.Since).tdiv 20 ≤ 50000 := by
    rw [Int.tdiv_eq_ediv_of_nonneg (by omega)]; omega
  have fin : ¬ (c.Booked ≠ -1 ∧ c.Booked ≤ now) → RankOf c now = if (now - c.Since).tdiv 20 < ClassOf c.Train then ClassOf c.Train - (now - c.Since).tdiv 20 else 0 := fun hn => by
    unfold RankOf; rw [if_pos ⟨h1, h2⟩, if_neg hn]
  have fyes : (c.Booked ≠ -1 ∧ c.Booked ≤ now) → RankOf c now = -1 := fun hn => by
    unfold RankOf; rw [if_pos ⟨h1, h2⟩, if_pos hn]
  by_cases hb : c.Booked = -1
  · simp -dsimp -implicitDefEqProofs [hb]
    first
      | refine call_lend (ClassOf_impl c.Train h) (by simp) rfl ?_
      | refine call_pure (ClassOf_impl c.Train h) (by simp) rfl ?_
      | refine ⟨_, _, ClassOf_impl c.Train h, by simp, .inr rfl, ?_⟩
      | refine ⟨_, _, ClassOf_impl c.Train h, by simp, .inl rfl, ?_⟩
      | refine callE_pure (ClassOf_impl c.Train h) (by simp) (.inr rfl) ?_
      | refine callE_pure (ClassOf_impl c.Train h) (by simp) (.inl rfl) ?_
    simp -dsimp -implicitDefEqProofs
    refine ⟨by unfold inI; omega, by unfold inI; omega, by unfold inI; omega, ?_⟩
    rw [fin (by simp [hb])]
  · by_cases hb2 : c.Booked ≤ now
    · simp -dsimp -implicitDefEqProofs [hb, hb2]
      rw [fyes ⟨hb, hb2⟩]
    · simp -dsimp -implicitDefEqProofs [hb, hb2]
      first
        | refine call_lend (ClassOf_impl c.Train h) (by simp) rfl ?_
        | refine call_pure (ClassOf_impl c.Train h) (by simp) rfl ?_
        | refine ⟨_, _, ClassOf_impl c.Train h, by simp, .inr rfl, ?_⟩
        | refine ⟨_, _, ClassOf_impl c.Train h, by simp, .inl rfl, ?_⟩
        | refine callE_pure (ClassOf_impl c.Train h) (by simp) (.inr rfl) ?_
        | refine callE_pure (ClassOf_impl c.Train h) (by simp) (.inl rfl) ?_
      simp -dsimp -implicitDefEqProofs
      refine ⟨by unfold inI; omega, by unfold inI; omega, by unfold inI; omega, ?_⟩
      rw [fin (by simp [hb]; omega)]
theorem RankOf_lt {c : CallT} {now : Int} (h : RankOf c now ≠ 3) : TrainOk c.Train = true ∧ 0 < (IdsOf c.Train).length := by
  by_cases h1 : CallOk c = true
  · have h2 := (callFacts h1).tr
    exact ⟨h2, by rw [IdsOf, if_pos h2, List.length_map]; exact (trainFacts h2).pos⟩
  · exact absurd (by simp [RankOf, h1]) h
def before (a b : CallT) (now : Int) : Bool :=
  if RankOf a now = 3 ∨ RankOf b now = 3 then false
  else if RankOf a now ≠ RankOf b now then decide (RankOf a now < RankOf b now)
  else if RankOf a now = -1 ∧ a.Booked ≠ b.Booked then decide (a.Booked < b.Booked)
  else if a.Since ≠ b.Since then decide (a.Since < b.Since)
  else decide ((IdsOf a.Train)[0]?.getD 0 < (IdsOf b.Train)[0]?.getD 0)
theorem ComesBefore_impl (a b : CallT) (now : Int) (ha : a.small) (hb : b.small) : PureF Try.prog n_impl_ComesBefore [.agg (a.enc.map .c), .agg (b.enc.map .c), .c (.i now)] (.c (.b (before a b now))) := by
  refine pure_of h_impl_ComesBefore (by simp) fun hwf => ?_
  simp -dsimp -implicitDefEqProofs [c_impl_ComesBefore]
  first
    | refine call_lend (RankOf_impl a now ha) (by simp) rfl ?_
    | refine call_pure (RankOf_impl a now ha) (by simp) rfl ?_
    | refine ⟨_, _, RankOf_impl a now ha, by simp, .inr rfl, ?_⟩
    | refine ⟨_, _, RankOf_impl a now ha, by simp, .inl rfl, ?_⟩
    | refine callE_pure (RankOf_impl a now ha) (by simp) (.inr rfl) ?_
    | refine callE_pure (RankOf_impl a now ha) (by simp) (.inl rfl) ?_
  simp -dsimp -implicitDefEqProofs
  first
    | refine call_lend (RankOf_impl b now hb) (by simp) rfl ?_
    | refine call_pure (RankOf_impl b now hb) (by simp) rfl ?_
    | refine ⟨_, _, RankOf_impl b now hb, by simp, .inr rfl, ?_⟩
    | refine ⟨_, _, RankOf_impl b now hb, by simp, .inl rfl, ?_⟩
    | refine callE_pure (RankOf_impl b now hb) (by simp) (.inr rfl) ?_
    | refine callE_pure (RankOf_impl b now hb) (by simp) (.inl rfl) ?_
  by_cases h1 : RankOf a now = 3
  · simp -dsimp -implicitDefEqProofs [h1]
    simp [before, h1]
  by_cases h2 : RankOf b now = 3
  · simp -dsimp -implicitDefEqProofs [h1, h2]
    simp [before, h2]
  by_cases h3 : RankOf a now = RankOf b now
  rotate_left
  · simp -dsimp -implicitDefEqProofs [h1, h2, h3]
    simp [before, h1, h2, h3]
  have last : a.Since = b.Since → ¬ (RankOf a now = -1 ∧ a.Booked ≠ b.Booked) → before a b now = decide ((IdsOf a.Train)[0]?.getD 0 < (IdsOf b.Train)[0]?.getD 0) := fun h5 h6 => by
    unfold before; rw [if_neg (by simp [h1, h2]), if_neg (by simp [h3]), if_neg h6, if_neg (by simp [h5])]
  have snc : a.Since ≠ b.Since → ¬ (RankOf a now = -1 ∧ a.Booked ≠ b.Booked) → before a b now = decide (a.Since < b.Since) := fun h5 h6 => by
    unfold before; rw [if_neg (by simp [h1, h2]), if_neg (by simp [h3]), if_neg h6, if_pos h5]
  have bkd : (RankOf a now = -1 ∧ a.Booked ≠ b.Booked) → before a b now = decide (a.Booked < b.Booked) := fun h6 => by
    unfold before; rw [if_neg (by simp [h1, h2]), if_neg (by simp [h3]), if_pos h6]
  obtain ⟨_, pa⟩ := RankOf_lt h1
  obtain ⟨_, pb⟩ := RankOf_lt h2
  obtain ⟨x, hx⟩ : ∃ x, (IdsOf a.Train)[0]? = some x := ⟨_, List.getElem?_eq_getElem pa⟩
  obtain ⟨y, hy⟩ : ∃ x, (IdsOf b.Train)[0]? = some x := ⟨_, List.getElem?_eq_getElem pb⟩
  have gx := (List.getElem?_eq_some_iff.1 hx).2
  have gy := (List.getElem?_eq_some_iff.1 hy).2
  by_cases h6 : RankOf a now = -1 ∧ a.Booked ≠ b.Booked
  · have h3' : RankOf b now = -1 := by rw [← h3]; exact h6.1
    simp -dsimp -implicitDefEqProofs [h1, h2, h3, h6.1, h6.2, h3']
    rw [bkd h6]
  by_cases h5 : a.Since = b.Since
  rotate_left
  · by_cases h7 : RankOf a now = -1
    · have h8 : a.Booked = b.Booked := by
        by_cases h : a.Booked = b.Booked
        · exact h
        · exact absurd ⟨h7, h⟩ h6
      have h3' : RankOf b now = -1 := by rw [← h3]; exact h7
      simp -dsimp -implicitDefEqProofs [h7, h8, h5, h3']
      rw [snc h5 h6]
    · have h3' : ¬ RankOf b now = -1 := by rw [← h3]; exact h7
      simp -dsimp -implicitDefEqProofs [h1, h2, h3, h5, h3']
      rw [snc h5 h6]
  · have hl := last h5 h6
    rw [hx, hy] at hl
    simp only [Option.getD_some] at hl
    by_cases h7 : RankOf a now = -1
    · have h8 : a.Booked = b.Booked := by
        by_cases h : a.Booked = b.Booked
        · exact h
        · exact absurd ⟨h7, h⟩ h6
      have h3' : RankOf b now = -1 := by rw [← h3]; exact h7
      simp -dsimp -implicitDefEqProofs [h7, h8, h5, h3']
      first
        | refine call_lend (IdsOf_implP a.Train ha) (by simp) rfl ?_
        | refine call_pure (IdsOf_implP a.Train ha) (by simp) rfl ?_
        | refine ⟨_, _, IdsOf_implP a.Train ha, by simp, .inr rfl, ?_⟩
        | refine ⟨_, _, IdsOf_implP a.Train ha, by simp, .inl rfl, ?_⟩
        | refine callE_pure (IdsOf_implP a.Train ha) (by simp) (.inr rfl) ?_
        | refine callE_pure (IdsOf_implP a.Train ha) (by simp) (.inl rfl) ?_
      simp -dsimp -implicitDefEqProofs [pa, hx, gx]
      first
        | refine call_lend (IdsOf_implP b.Train hb) (by simp) rfl ?_
        | refine call_pure (IdsOf_implP b.Train hb) (by simp) rfl ?_
        | refine ⟨_, _, IdsOf_implP b.Train hb, by simp, .inr rfl, ?_⟩
        | refine ⟨_, _, IdsOf_implP b.Train hb, by simp, .inl rfl, ?_⟩
        | refine callE_pure (IdsOf_implP b.Train hb) (by simp) (.inr rfl) ?_
        | refine callE_pure (IdsOf_implP b.Train hb) (by simp) (.inl rfl) ?_
      simp -dsimp -implicitDefEqProofs [pb, hy, gy]
      rw [hl]
    · have h3' : ¬ RankOf b now = -1 := by rw [← h3]; exact h7
      simp -dsimp -implicitDefEqProofs [h1, h2, h3, h5, h3']
      first
        | refine call_lend (IdsOf_implP a.Train ha) (by simp) rfl ?_
        | refine call_pure (IdsOf_implP a.Train ha) (by simp) rfl ?_
        | refine ⟨_, _, IdsOf_implP a.Train ha, by simp, .inr rfl, ?_⟩
        | refine ⟨_, _, IdsOf_implP a.Train ha, by simp, .inl rfl, ?_⟩
        | refine callE_pure (IdsOf_implP a.Train ha) (by simp) (.inr rfl) ?_
        | refine callE_pure (IdsOf_implP a.Train ha) (by simp) (.inl rfl) ?_
      simp -dsimp -implicitDefEqProofs [pa, hx, gx]
      first
        | refine call_lend (IdsOf_implP b.Train hb) (by simp) rfl ?_
        | refine call_pure (IdsOf_implP b.Train hb) (by simp) rfl ?_
        | refine ⟨_, _, IdsOf_implP b.Train hb, by simp, .inr rfl, ?_⟩
        | refine ⟨_, _, IdsOf_implP b.Train hb, by simp, .inl rfl, ?_⟩
        | refine callE_pure (IdsOf_implP b.Train hb) (by simp) (.inr rfl) ?_
        | refine callE_pure (IdsOf_implP b.Train hb) (by simp) (.inl rfl) ?_
      simp -dsimp -implicitDefEqProofs [pb, hy, gy]
      rw [hl]
def nenc1 (x : Nat) : List C := [.i x]
def insG (lt : Nat → Nat → Bool) (x : Nat) (P : List Nat) : List Nat := (P.reverse.dropWhile (lt x)).reverse ++ x :: (P.reverse.takeWhile (lt x)).reverse
def ordG (lt : Nat → Nat → Bool) (xs : List Nat) : Nat → List Nat
  | 0 => []
  | i + 1 => match xs[i]? with
    | some x => insG lt x (ordG lt xs i)
    | none => ordG lt xs i
theorem takeWhile_split {p : Nat → Bool} : ∀ {a b : List Nat}, (∀ x ∈ a, p x = true) → (∀ y l, b = y :: l → p y = false) → (a ++ b).takeWhile p = a ∧ (a ++ b).dropWhile p = b
  | [], [], _, _ => ⟨rfl, rfl⟩
  | [], y :: l, _, h => by
    have := h y l rfl
    simp [List.takeWhile_cons, List.dropWhile_cons, this]
  | x :: a, b, h1, h2 => by
    have hx := h1 x (by simp)
    obtain ⟨e1, e2⟩ := takeWhile_split (p := p) (a := a) (b := b) (fun y hy => h1 y (by simp [hy])) h2
    simp [List.takeWhile_cons, List.dropWhile_cons, hx, e1, e2]
theorem insG_of {lt : Nat → Nat → Bool} {x : Nat} {P l1 l2 : List Nat} (e : l1 ++ l2 = P) (h2 : ∀ y ∈ l2, lt x y = true) (h1 : ∀ l y, l1 = l ++ [y] → lt x y = false) : insG lt x P = l1 ++ x :: l2 := by
  have hr : P.reverse = l2.reverse ++ l1.reverse := by rw [← e, List.reverse_append]
  obtain ⟨e1, e2⟩ := takeWhile_split (p := lt x) (a := l2.reverse) (b := l1.reverse) (fun y hy => h2 y (List.mem_reverse.1 hy)) (fun y l h => h1 l.reverse y (by
    have := congrArg List.reverse h
    simpa using this))
  unfold insG
  rw [hr, e1, e2, List.reverse_reverse, List.reverse_reverse]
theorem insG_perm {lt : Nat → Nat → Bool} {x : Nat} {P : List Nat} : (insG lt x P).Perm (x :: P) := by
  have h : (P.reverse.dropWhile (lt x)).reverse ++ (P.reverse.takeWhile (lt x)).reverse = P := by
    rw [← List.reverse_append, List.takeWhile_append_dropWhile, List.reverse_reverse]
  unfold insG
  refine List.perm_middle.trans ?_
  rw [h]
theorem ordG_succ {lt : Nat → Nat → Bool} {xs : List Nat} {i x : Nat} (h : xs[i]? = some x) : ordG lt xs (i + 1) = insG lt x (ordG lt xs i) := by
  rw [ordG, h]
theorem ordG_perm {lt : Nat → Nat → Bool} {xs : List Nat} : ∀ i : Nat, i ≤ xs.length → (ordG lt xs i).Perm (xs.take i)
  | 0, _ => by simp [ordG]
  | i + 1, h => by
    have ih := ordG_perm (lt := lt) (xs := xs) i (by omega)
    rw [ordG_succ (List.getElem?_eq_getElem (show i < xs.length by omega)), List.take_succ, List.getElem?_eq_getElem (show i < xs.length by omega)]
    refine insG_perm.trans ((ih.cons _).trans ?_)
    exact (List.perm_append_singleton _ _).symm
def sorted (lt : Nat → Nat → Bool) (xs : List Nat) : List Nat := ordG lt xs xs.length
theorem sorted_perm {lt : Nat → Nat → Bool} {xs : List Nat} : (sorted lt xs).Perm xs := by
  have := ordG_perm (lt := lt) (xs := xs) xs.length (Nat.le_refl _)
  rwa [List.take_length] at this
def gO (lt : Nat → Nat → Bool) (xs : List Nat) (i : Nat) : List Nat := ordG lt xs i ++ xs.drop i
def gM (xs l1 l2 : List Nat) (x i : Nat) : List Nat := (l1 ++ x :: l2) ++ xs.drop (i + 1)
theorem gO_one {lt : Nat → Nat → Bool} {xs : List Nat} (h : 1 ≤ xs.length) : gO lt xs 1 = xs := by
  obtain ⟨x, l, rfl⟩ : ∃ x l, xs = x :: l := by cases xs with | nil => simp at h | cons x l => exact ⟨x, l, rfl⟩
  simp [gO, ordG, insG]
theorem gO_all {lt : Nat → Nat → Bool} {xs : List Nat} : gO lt xs xs.length = sorted lt xs := by simp [gO, sorted]
theorem gO_go {lt : Nat → Nat → Bool} {xs : List Nat} {i x : Nat} (h : xs[i]? = some x) : gO lt xs i = gM xs (ordG lt xs i) [] x i := by
  have hlt := (List.getElem?_eq_some_iff.1 h).1
  have hx := (List.getElem?_eq_some_iff.1 h).2
  unfold gO gM
  rw [List.drop_eq_getElem_cons hlt, hx]; simp
theorem gM_end {lt : Nat → Nat → Bool} {xs : List Nat} {i x : Nat} {l1 l2 : List Nat} (hx : xs[i]? = some x) (h : insG lt x (ordG lt xs i) = l1 ++ x :: l2) : gM xs l1 l2 x i = gO lt xs (i + 1) := by
  unfold gO gM; rw [ordG_succ hx, h]
theorem gM_len {xs : List Nat} {i x : Nat} {l1 l2 : List Nat} (h : l1.length + l2.length = i) (h2 : i < xs.length) : (gM xs l1 l2 x i).length = xs.length := by simp [gM]; omega
theorem gM_swp {xs : List Nat} {i x y : Nat} {l l2 : List Nat} : (gM xs (l ++ [y]) l2 x i)[l.length + 1]? = some x ∧ (gM xs (l ++ [y]) l2 x i)[l.length]? = some y ∧
    ((gM xs (l ++ [y]) l2 x i).set (l.length + 1) y).set l.length x = gM xs l (y :: l2) x i := by
  unfold gM
  simp only [List.append_assoc, List.cons_append, List.nil_append]
  refine ⟨by simp [List.getElem?_append], by simp [List.getElem?_append], ?_⟩
  simp [List.set_append]
def lessC (cmp : Nat → Nat → Int) (x y : Nat) : Bool := decide (cmp x y < 0)
theorem insSortG_c (cmp : Nat → Nat → Int) (xs : List Nat) (hn : 1 ≤ xs.length) (hn2 : xs.length ≤ 1000) (f : Nat) (a b : List C) (hf : ∃ fn, Try.prog.funcs[f]? = some fn ∧ fn.body.isSome = true ∧ (fn.name != "runtime.NumGoroutine") = true)
    (hc : ∀ x y : Nat, x ∈ xs → y ∈ xs → PureF Try.prog f [.c (.i x), .c (.i y), .elt a, .elt b] (.c (.i (cmp x y)))) :
    InF Try.prog n_slices_insertionSortCmpFunc_int_ (.c (cw 1 (xs.map nenc1))) (.c (cw 1 ((sorted (lessC cmp) xs).map nenc1))) [.c (.i 0), .c (.i xs.length), .fn f [.elt a, .elt b]] (.tup []) := by
  have hpl : (sorted (lessC cmp) xs).length = xs.length := sorted_perm.length_eq
  rw [cw_pos (by simp; omega), cw_pos (by rw [List.length_map, hpl]; omega)]
  obtain ⟨n, hnn⟩ : ∃ n, n = xs.length := ⟨_, rfl⟩
  rw [← hnn] at hn hn2 ⊢
  refine in_of h_slices_insertionSortCmpFunc_int_ (by simp) (by simp) rfl fun hwf => ?_
  simp -dsimp -implicitDefEqProofs [c_slices_insertionSortCmpFunc_int_]
  refine ⟨by unfold inI; omega, ?_⟩
  refine loop_rule (ι := Nat) (fun i => 1 ≤ i ∧ i ≤ n) (fun i => stOf [(0, .own 0 1 n), (1, .c (.i 0)), (2, .c (.i n)), (3, .fn f [.elt a, .elt b]), (8, .c (.i i)), (1000000, .own 0 1 n)] [(0, .row 1 ((gO (lessC cmp) xs i).map nenc1))]) (fun i => n - i) 1 ⟨Nat.le_refl _, hn⟩ (by apply le_of <;> simp [AV.refs1, AV.ref0, Obj.refs1, gO_one (show 1 ≤ xs.length by omega), hnn]) ?_
  rintro i ⟨hi1, hi⟩
  have hop := ordG_perm (lt := lessC cmp) (xs := xs) i (by omega)
  have hol : (ordG (lessC cmp) xs i).length = i := by rw [hop.length_eq, List.length_take]; omega
  have hom : ∀ y ∈ ordG (lessC cmp) xs i, y ∈ xs := fun y hy => List.mem_of_mem_take (hop.mem_iff.1 hy)
  rcases Nat.lt_or_ge i n with hlt | hge
  · obtain ⟨x, hx⟩ : ∃ x, xs[i]? = some x := ⟨_, List.getElem?_eq_getElem (by omega)⟩
    have hxm := List.mem_of_getElem? hx
    simp -dsimp -implicitDefEqProofs [lt_t hlt]
    rw [gO_go hx]
    generalize hP : ordG (lessC cmp) xs i = P at *
    refine loop_rule (ι := List Nat × List Nat) (fun p => p.1 ++ p.2 = P ∧ ∀ y ∈ p.2, lessC cmp x y = true) (fun p => stOf [(0, .own 0 1 n), (1, .c (.i 0)), (2, .c (.i n)), (3, .fn f [.elt a, .elt b]), (8, .c (.i i)), (9, .c (.i p.1.length)), (1000000, .own 0 1 n)] [(0, .row 1 ((gM xs p.1 p.2 x i).map nenc1))]) (fun p => p.1.length) (P, []) ⟨by simp, by simp⟩ (by apply le_of <;> simp [AV.refs1, AV.ref0, Obj.refs1, hol]) ?_
    rintro ⟨l1, l2⟩ ⟨he, h2⟩
    simp only at he h2
    rcases List.eq_nil_or_concat l1 with e | ⟨l, y, e⟩
    · subst e
      have hins := insG_of (lt := lessC cmp) (x := x) he h2 (fun l y h => by simp at h)
      have hend := gM_end (lt := lessC cmp) hx (by rw [hP]; exact hins)
      simp -dsimp -implicitDefEqProofs
      refine ⟨by unfold inI; omega, i + 1, ⟨by omega, by omega⟩, by omega, ?_⟩
      apply le_of <;> simp [AV.refs1, AV.ref0, Obj.refs1, hend]
    · rw [List.concat_eq_append] at e
      subst e
      have hlen := gM_len (x := x) (xs := xs) (l1 := l ++ [y]) (l2 := l2) (i := i) (by rw [← List.length_append, he, hol]) (by omega)
      have hyP : y ∈ xs := hom y (by rw [← he]; simp)
      obtain ⟨w1, w2, w3⟩ := gM_swp (xs := xs) (i := i) (x := x) (y := y) (l := l) (l2 := l2)
      have hend := fun h => gM_end (lt := lessC cmp) (l1 := l ++ [y]) (l2 := l2) hx (by rw [hP]; exact insG_of (lt := lessC cmp) (x := x) he h2 h)
      have hll : l.length + 1 < n := by rw [hnn, ← hlen]; exact (List.getElem?_eq_some_iff.1 w1).1
      have e0 : (((l ++ [y]).length : Nat) : Int) = ((l.length + 1 : Nat) : Int) := by simp
      rw [e0]
      generalize gM xs (l ++ [y]) l2 x i = M at *
      obtain ⟨m, hm⟩ : ∃ m, m = l.length := ⟨_, rfl⟩
      obtain ⟨j, hj⟩ : ∃ j, j = l.length + 1 := ⟨_, rfl⟩
      rw [← hj] at w1 w3 hll ⊢
      rw [← hm] at w2 w3
      have v1 := (List.getElem?_eq_some_iff.1 w1).2
      have v2 := (List.getElem?_eq_some_iff.1 w2).2
      have k1 : j < M.length := (List.getElem?_eq_some_iff.1 w1).1
      have k2 : m < M.length := (List.getElem?_eq_some_iff.1 w2).1
      have ej : ((j : Int) - 1) = (m : Int) := by omega
      have j0 : 0 < j := by omega
      have mn : m < n := by omega
      have hf' : ∃ fn, Try.prog.funcs[f]? = some fn ∧ fn.body.isSome = true ∧ ¬fn.name = "runtime.NumGoroutine" := by simpa using hf
      simp -dsimp -implicitDefEqProofs [j0, ej, w1, w2, v1, v2, k1, k2, nenc1, hll, mn]
      refine ⟨by unfold inI; omega, hf', ?_⟩
      first
        | refine call_lend (hc x y hxm hyP) (by simp) rfl ?_
        | refine call_pure (hc x y hxm hyP) (by simp) rfl ?_
        | refine ⟨_, _, hc x y hxm hyP, by simp, .inr rfl, ?_⟩
        | refine ⟨_, _, hc x y hxm hyP, by simp, .inl rfl, ?_⟩
        | refine callE_pure (hc x y hxm hyP) (by simp) (.inr rfl) ?_
        | refine callE_pure (hc x y hxm hyP) (by simp) (.inl rfl) ?_
      have hr2 : ∀ h, ((M.map nenc1).set j [C.i y])[m]'h = [C.i y] := by intro h; rw [List.getElem_set_ne (by omega)]; simp [v2, nenc1]
      have hs3 : ((M.map nenc1).set j [C.i y]).set m [C.i x] = (gM xs l (y :: l2) x i).map nenc1 := by rw [← w3, List.map_set, List.map_set]; rfl
      simp -dsimp -implicitDefEqProofs [ej, w1, w2, v1, v2, k1, k2, hll, mn, hr2, hs3]
      refine ⟨fun hcm => ?_, fun hcm => ?_⟩
      · refine ⟨by unfold inI; omega, l, y :: l2, ⟨by rw [← he]; simp, fun z hz => ?_⟩, by omega, ?_⟩
        · rcases List.mem_cons.1 hz with hz | hz
          · subst hz; simp [lessC]; omega
          · exact h2 z hz
        · apply le_of <;> simp [AV.refs1, AV.ref0, Obj.refs1, nenc1, w1, w2, v1, v2, ← hm, hr2, hs3]
      · have hM := hend fun l' y' h => by
          have := (List.append_inj' h rfl).2
          simp at this; subst this; simp [lessC]; omega
        refine ⟨by unfold inI; omega, i + 1, ⟨by omega, by omega⟩, by omega, ?_⟩
        apply le_of <;> simp [AV.refs1, AV.ref0, Obj.refs1, hM]
  · have : i = n := by omega
    subst this
    simp -dsimp -implicitDefEqProofs
    rw [hnn, gO_all]
    refine ⟨by rw [List.take_of_length_le (by rw [List.length_map, hpl]; exact Nat.le_refl _)], ?_⟩
    simp [resP]
theorem stableG_c (cmp : Nat → Nat → Int) (xs : List Nat) (hn : 1 ≤ xs.length) (hn2 : xs.length ≤ 19) (f : Nat) (a b : List C) (hf : ∃ fn, Try.prog.funcs[f]? = some fn ∧ fn.body.isSome = true ∧ (fn.name != "runtime.NumGoroutine") = true)
    (hc : ∀ x y : Nat, x ∈ xs → y ∈ xs → PureF Try.prog f [.c (.i x), .c (.i y), .elt a, .elt b] (.c (.i (cmp x y)))) :
    InF Try.prog n_slices_stableCmpFunc_int_ (.c (cw 1 (xs.map nenc1))) (.c (cw 1 ((sorted (lessC cmp) xs).map nenc1))) [.c (.i xs.length), .fn f [.elt a, .elt b]] (.tup []) := by
  have hpl : (sorted (lessC cmp) xs).length = xs.length := sorted_perm.length_eq
  have hi := insSortG_c cmp xs hn (by omega) f a b hf hc
  have hcw : cw 1 ((sorted (lessC cmp) xs).map nenc1) = .ow 1 ((sorted (lessC cmp) xs).map nenc1) := cw_pos (by rw [List.length_map, hpl]; omega)
  have hcw0 : cw 1 (xs.map nenc1) = .ow 1 (xs.map nenc1) := cw_pos (by simp; omega)
  have n1 : ((20 : Int) ≤ (xs.length : Int)) = False := by simp; omega
  have n2 : ((20 : Int) < (xs.length : Int)) = False := by simp; omega
  have n3 : (20 ≤ xs.length) = False := by simp; omega
  have n4 : (20 < xs.length) = False := by simp; omega
  rw [hcw, hcw0]
  refine in_of h_slices_stableCmpFunc_int_ (by simp) (by simp) rfl fun hwf => ?_
  simp -dsimp -implicitDefEqProofs [c_slices_stableCmpFunc_int_]
  refine loop_rule (ι := Unit) (fun _ => True) (fun _ => stOf [(0, .own 0 1 xs.length), (1, .c (.i xs.length)), (2, .fn f [.elt a, .elt b]), (6, .c (.i 20)), (7, .c (.i 0)), (8, .c (.i 20)), (1000000, .own 0 1 xs.length)] [(0, .row 1 (xs.map nenc1))]) (fun _ => 0) () trivial (by apply le_of <;> simp [AV.refs1, AV.ref0, Obj.refs1]) ?_
  rintro _ _
  simp -dsimp -implicitDefEqProofs [n1, n3]
  refine call_in1 (up := some (0, .row 1 ((sorted (lessC cmp) xs).map nenc1))) hi (by simp) rfl rfl (ioC_row (rows := xs.map nenc1) (by simp) rfl rfl (by simp) (by simp [hpl]) rfl rfl) ?_
  simp -dsimp -implicitDefEqProofs
  refine loop_rule (ι := Unit) (fun _ => True) (fun _ => stOf [(0, .own 0 1 xs.length), (1, .c (.i xs.length)), (6, .c (.i 20)), (1000000, .own 0 1 xs.length)] [(0, .row 1 ((sorted (lessC cmp) xs).map nenc1))]) (fun _ => 0) () trivial (by apply le_of <;> simp [AV.refs1, AV.ref0, Obj.refs1]) ?_
  rintro _ _
  simp -dsimp -implicitDefEqProofs [n2, n4]
  exact ⟨by rw [List.take_of_length_le (by rw [List.length_map, hpl]; exact Nat.le_refl _)], by simp [resP]⟩
theorem sortStableG_c (cmp : Nat → Nat → Int) (xs : List Nat) (hn : 1 ≤ xs.length) (hn2 : xs.length ≤ 19) (f : Nat) (a b : List C) (hf : ∃ fn, Try.prog.funcs[f]? = some fn ∧ fn.body.isSome = true ∧ (fn.name != "runtime.NumGoroutine") = true)
    (hc : ∀ x y : Nat, x ∈ xs → y ∈ xs → PureF Try.prog f [.c (.i x), .c (.i y), .elt a, .elt b] (.c (.i (cmp x y)))) :
    InF Try.prog n_slices_SortStableFunc___int_int_ (.c (cw 1 (xs.map nenc1))) (.c (cw 1 ((sorted (lessC cmp) xs).map nenc1))) [.fn f [.elt a, .elt b]] (.tup []) := by
  have hpl : (sorted (lessC cmp) xs).length = xs.length := sorted_perm.length_eq
  have hi := stableG_c cmp xs hn (by omega) f a b hf hc
  have hcw : cw 1 ((sorted (lessC cmp) xs).map nenc1) = .ow 1 ((sorted (lessC cmp) xs).map nenc1) := cw_pos (by rw [List.length_map, hpl]; omega)
  have hcw0 : cw 1 (xs.map nenc1) = .ow 1 (xs.map nenc1) := cw_pos (by simp; omega)
  rw [hcw, hcw0]
  refine in_of h_slices_SortStableFunc___int_int_ (by simp) (by simp) rfl fun hwf => ?_
  simp -dsimp -implicitDefEqProofs [c_slices_SortStableFunc___int_int_]
  intro _
  refine call_in1 (up := some (0, .row 1 ((sorted (lessC cmp) xs).map nenc1))) hi (by simp) rfl rfl (ioC_row (rows := xs.map nenc1) (by simp) rfl rfl (by simp) (by simp [hpl]) rfl rfl) ?_
  simp -dsimp -implicitDefEqProofs
  exact ⟨by rw [List.take_of_length_le (by rw [List.length_map, hpl]; exact Nat.le_refl _)], by simp [resP]⟩
theorem cw_closed (o : List Nat) : (cw 1 (o.map nenc1)).closed := by
  cases o with
  | nil => simp [cw, C.closed]
  | cons x l => simp [cw, C.closed, nenc1]
theorem insSort0_c (f : Nat) (a b : List C) : InF Try.prog n_slices_insertionSortCmpFunc_int_ (.c (.sl 1 [])) (.c (.sl 1 [])) [.c (.i 0), .c (.i 0), .fn f [.elt a, .elt b]] (.tup []) := by
  refine in_of h_slices_insertionSortCmpFunc_int_ (by simp) (by simp) rfl fun hwf => ?_
  simp -dsimp -implicitDefEqProofs [c_slices_insertionSortCmpFunc_int_]
  refine ⟨by unfold inI; omega, ?_⟩
  refine loop_rule (ι := Unit) (fun _ => True) (fun _ => stOf [(2, .c (.i 0)), (8, .c (.i 1)), (1000000, .c (.sl 1 []))] []) (fun _ => 0) () trivial (by apply le_of <;> simp [AV.refs1, AV.ref0, Obj.refs1]) ?_
  rintro _ _
  simp -dsimp -implicitDefEqProofs
  simp [resP]
theorem stable0_c (f : Nat) (a b : List C) : InF Try.prog n_slices_stableCmpFunc_int_ (.c (.sl 1 [])) (.c (.sl 1 [])) [.c (.i 0), .fn f [.elt a, .elt b]] (.tup []) := by
  refine in_of h_slices_stableCmpFunc_int_ (by simp) (by simp) rfl fun hwf => ?_
  simp -dsimp -implicitDefEqProofs [c_slices_stableCmpFunc_int_]
  refine loop_rule (ι := Unit) (fun _ => True) (fun _ => stOf [(0, .c (.sl 1 [])), (1, .c (.i 0)), (2, .fn f [.elt a, .elt b]), (6, .c (.i 20)), (7, .c (.i 0)), (8, .c (.i 20)), (1000000, .c (.sl 1 []))] []) (fun _ => 0) () trivial (by apply le_of <;> simp [AV.refs1, AV.ref0, Obj.refs1]) ?_
  rintro _ _
  simp -dsimp -implicitDefEqProofs
  refine call_in1 (up := none) (insSort0_c f a b) (by simp) rfl rfl (ioC_c rfl) ?_
  simp -dsimp -implicitDefEqProofs
  refine loop_rule (ι := Unit) (fun _ => True) (fun _ => stOf [(1, .c (.i 0)), (6, .c (.i 20)), (1000000, .c (.sl 1 []))] []) (fun _ => 0) () trivial (by apply le_of <;> simp [AV.refs1, AV.ref0, Obj.refs1]) ?_
  rintro _ _
  simp -dsimp -implicitDefEqProofs
  simp [resP]
theorem sortStable0_c (f : Nat) (a b : List C) : InF Try.prog n_slices_SortStableFunc___int_int_ (.c (.sl 1 [])) (.c (.sl 1 [])) [.fn f [.elt a, .elt b]] (.tup []) := by
  refine in_of h_slices_SortStableFunc___int_int_ (by simp) (by simp) rfl fun hwf => ?_
  simp -dsimp -implicitDefEqProofs [c_slices_SortStableFunc___int_int_]
  refine call_in1 (up := none) (stable0_c f a b) (by simp) rfl rfl (ioC_c rfl) ?_
  simp -dsimp -implicitDefEqProofs
  simp [resP]
def cmpC (list : List CallT) (now : Int) (x y : Nat) : Int :=
  match list[x]?, list[y]? with
  | some a, some b => if before a b now then -1 else if before b a now then 1 else 0
  | _, _ => 0
theorem OrderCmp_c (list : List CallT) (now : Int) (hs : small_CallS list) (x y : Nat) (hx : x < list.length) (hy : y < list.length) :
    PureF Try.prog n_impl_OrderCalls_1 [.c (.i x), .c (.i y), .elt [.sl 4 (list.map CallT.enc)], .elt [.i now]] (.c (.i (cmpC list now x y))) := by
  obtain ⟨a, ha⟩ : ∃ e, list[x]? = some e := ⟨_, List.getElem?_eq_getElem hx⟩
  obtain ⟨b, hb⟩ : ∃ e, list[y]? = some e := ⟨_, List.getElem?_eq_getElem hy⟩
  have g1 := (List.getElem?_eq_some_iff.1 ha).2
  have g2 := (List.getElem?_eq_some_iff.1 hb).2
  have sa := hs.2 a (List.mem_of_getElem? ha)
  have sb := hs.2 b (List.mem_of_getElem? hb)
  have e : cmpC list now x y = if before a b now then -1 else if before b a now then 1 else 0 := by simp [cmpC, ha, hb]
  rw [e]
  refine pure_of h_impl_OrderCalls_1 (by simp) fun hwf => ?_
  simp -dsimp -implicitDefEqProofs [c_impl_OrderCalls_1, ha, hb, g1, g2, hx, hy]
  first
    | refine call_lend (ComesBefore_impl a b now sa sb) (by simp) rfl ?_
    | refine call_pure (ComesBefore_impl a b now sa sb) (by simp) rfl ?_
    | refine ⟨_, _, ComesBefore_impl a b now sa sb, by simp, .inr rfl, ?_⟩
    | refine ⟨_, _, ComesBefore_impl a b now sa sb, by simp, .inl rfl, ?_⟩
    | refine callE_pure (ComesBefore_impl a b now sa sb) (by simp) (.inr rfl) ?_
    | refine callE_pure (ComesBefore_impl a b now sa sb) (by simp) (.inl rfl) ?_
  cases h1 : before a b now with
  | true => simp -dsimp -implicitDefEqProofs
  | false =>
  simp -dsimp -implicitDefEqProofs [ha, hb, g1, g2, hx, hy]
  first
    | refine call_lend (ComesBefore_impl b a now sb sa) (by simp) rfl ?_
    | refine call_pure (ComesBefore_impl b a now sb sa) (by simp) rfl ?_
    | refine ⟨_, _, ComesBefore_impl b a now sb sa, by simp, .inr rfl, ?_⟩
    | refine ⟨_, _, ComesBefore_impl b a now sb sa, by simp, .inl rfl, ?_⟩
    | refine callE_pure (ComesBefore_impl b a now sb sa) (by simp) (.inr rfl) ?_
    | refine callE_pure (ComesBefore_impl b a now sb sa) (by simp) (.inl rfl) ?_
  cases h2 : before b a now with
  | true => simp -dsimp -implicitDefEqProofs
  | false => simp -dsimp -implicitDefEqProofs
/-- The calls that have a rank, by their places. -/
def ranked (list : List CallT) (now : Int) (k : Nat) : List Nat := (List.range k).filter fun i => decide (RankOf (list[i]?.getD default) now ≠ 3)
theorem ranked_succ {list : List CallT} {now : Int} {k : Nat} {c : CallT} (h : list[k]? = some c) : ranked list now (k + 1) = if RankOf c now = 3 then ranked list now k else ranked list now k ++ [k] := by
  unfold ranked
  rw [List.range_succ, List.filter_append]
  by_cases h2 : RankOf c now = 3 <;> simp [h, h2]
theorem ranked_lt {list : List CallT} {now : Int} {k x : Nat} (h : x ∈ ranked list now k) : x < k := by
  unfold ranked at h
  exact List.mem_range.1 (List.mem_filter.1 h).1
theorem ranked_len {list : List CallT} {now : Int} {k : Nat} : (ranked list now k).length ≤ k := by
  unfold ranked
  exact Nat.le_trans (List.length_filter_le _ _) (by simp)
def orderC (list : List CallT) (now : Int) : List Nat := sorted (lessC (cmpC list now)) (ranked list now list.length)
theorem OrderCalls_impl (list : List CallT) (now : Int) (hs : small_CallS list) (hl : list.length ≤ 19) :
    OwnF Try.prog n_impl_OrderCalls [.c (.sl 4 (list.map CallT.enc)), .c (.i now)] (.c (.ow 1 ((orderC list now).map nenc1))) := by
  refine own_of h_impl_OrderCalls (by simp) fun hwf => ?_
  simp -dsimp -implicitDefEqProofs [c_impl_OrderCalls]
  intro hlen
  refine virt_rule (k0 := 1) 5 1 (by simp) (by simp) (by decide) ?_
  refine loop_rule (ι := Nat) (fun k => k ≤ list.length) (fun k => stOf [(2, .box 2 0), (3, .box 3 0), (5, .own 5 1 (ranked list now k).length), (8, .c (.sl 4 (list.map CallT.enc))), (9, .c (.i list.length)), (10, .c (.i k))] [(2, .box [.c (.sl 4 (list.map CallT.enc))]), (3, .box [.c (.i now)]), (5, .row 1 ((ranked list now k).map nenc1))]) (fun k => list.length - k) 0 (by simp) (by apply le_of <;> simp [AV.refs1, AV.ref0, Obj.refs1, ranked]) ?_
  rintro k hk
  have hrl := ranked_len (list := list) (now := now) (k := k)
  rcases Nat.lt_or_ge k list.length with hlt | hge
  · obtain ⟨c, hc⟩ : ∃ x, list[k]? = some x := ⟨_, List.getElem?_eq_getElem hlt⟩
    have g1 := (List.getElem?_eq_some_iff.1 hc).2
    have sc := hs.2 c (List.mem_of_getElem? hc)
    have hrs := ranked_succ (now := now) hc
    simp -dsimp -implicitDefEqProofs [hc, g1, lt_t hlt, hlt]
    first
      | refine call_lend (RankOf_impl c now sc) (by simp) rfl ?_
      | refine call_pure (RankOf_impl c now sc) (by simp) rfl ?_
      | refine ⟨_, _, RankOf_impl c now sc, by simp, .inr rfl, ?_⟩
      | refine ⟨_, _, RankOf_impl c now sc, by simp, .inl rfl, ?_⟩
      | refine callE_pure (RankOf_impl c now sc) (by simp) (.inr rfl) ?_
      | refine callE_pure (RankOf_impl c now sc) (by simp) (.inl rfl) ?_
    by_cases h3 : RankOf c now = 3
    · rw [if_pos h3] at hrs
      simp -dsimp -implicitDefEqProofs [h3]
      refine ⟨inI_succ hlt hlen, k + 1, hlt, by omega, ?_⟩
      apply le_of <;> simp [AV.refs1, AV.ref0, Obj.refs1, hrs]
    · rw [if_neg h3] at hrs
      simp -dsimp -implicitDefEqProofs [h3]
      refine ⟨by omega, inI_succ hlt hlen, k + 1, hlt, by omega, ?_⟩
      apply le_of <;> simp [AV.refs1, AV.ref0, Obj.refs1, hrs, nenc1]
  · have hkn : k = list.length := by omega
    subst hkn
    simp -dsimp -implicitDefEqProofs
    have hrlt : ∀ x ∈ ranked list now list.length, x < list.length := fun x hx => ranked_lt hx
    have ho : orderC list now = sorted (lessC (cmpC list now)) (ranked list now list.length) := rfl
    have hsort : InF Try.prog n_slices_SortStableFunc___int_int_ (.c (cw 1 ((ranked list now list.length).map nenc1))) (.c (cw 1 ((orderC list now).map nenc1))) [.fn n_impl_OrderCalls_1 [.elt [.sl 4 (list.map CallT.enc)], .elt [.i now]]] (.tup []) := by
      rcases Nat.eq_zero_or_pos (ranked list now list.length).length with e | e
      · have e2 := List.length_eq_zero_iff.1 e
        rw [ho, e2]
        exact sortStable0_c _ _ _
      · exact sortStableG_c (cmpC list now) _ e (by omega) _ _ _ ⟨Try.f168, Try.func168, rfl, by decide⟩ fun x y hx hy => OrderCmp_c list now hs x y (hrlt x hx) (hrlt y hy)
    have hol : (orderC list now).length = (ranked list now list.length).length := by rw [ho]; exact sorted_perm.length_eq
    generalize orderC list now = o at *
    generalize ranked list now list.length = r at *
    refine call_in1b (up := some (5, .row 1 (o.map nenc1))) hsort ⟨lnt_fn ⟨lnt1_box (by simp) (by simp [upIds]), lnt1_box (by simp) (by simp [upIds]), trivial⟩, trivial⟩ (cw_closed o) rfl (ioC_row (rows := r.map nenc1) (by simp) rfl rfl (by simp) (by simp [hol]) rfl rfl) ?_
    simp -dsimp -implicitDefEqProofs
    rw [← hol, take_full]
def upAt (list : List CallT) (i : Nat) : Bool := (list[i]?.map fun c => c.Train.Up).getD false
theorem upAt_get {list : List CallT} {i : Nat} {c : CallT} (h : list[i]? = some c) : upAt list i = c.Train.Up := by simp [upAt, h]
def sideOf (list : List CallT) (o : List Nat) (t : Turn) : Bool :=
  if upAt list (o[0]?.getD 0) ≠ t.Up ∨ t.Count < 3 then upAt list (o[0]?.getD 0)
  else if o.all fun i => upAt list i == upAt list (o[0]?.getD 0) then upAt list (o[0]?.getD 0) else !upAt list (o[0]?.getD 0)
def NextSide (list : List CallT) (t : Turn) (now : Int) : Bool × Bool :=
  if (orderC list now).length = 0 ∨ TurnOk t = false then (false, false) else (sideOf list (orderC list now) t, true)
theorem order_lt {list : List CallT} {now : Int} : ∀ x ∈ orderC list now, x < list.length := fun x hx => ranked_lt (sorted_perm.mem_iff.1 hx)
theorem order_len {list : List CallT} {now : Int} : (orderC list now).length ≤ list.length := by
  unfold orderC; rw [sorted_perm.length_eq]; exact ranked_len
theorem NextSide_impl (list : List CallT) (t : Turn) (now : Int) (hs : small_CallS list) (hl : list.length ≤ 19) :
    PureF Try.prog n_impl_NextSide [.c (.sl 4 (list.map CallT.enc)), .agg (t.enc.map .c), .c (.i now)] (.tup [.c (.b (NextSide list t now).1), .c (.b (NextSide list t now).2)]) := by
  refine pure_of h_impl_NextSide (by simp) fun hwf => ?_
  simp -dsimp -implicitDefEqProofs [c_impl_NextSide]
  first
    | refine call_ownD (OrderCalls_impl list now hs hl) (by simp ) rfl (by simp [freshO]) ?_
    | refine callE_ownD (OrderCalls_impl list now hs hl) (by simp ) rfl (by simp [freshO]) ?_
  have hol := order_len (list := list) (now := now)
  have hlt := order_lt (list := list) (now := now)
  have hns : NextSide list t now = if (orderC list now).length = 0 ∨ TurnOk t = false then (false, false) else (sideOf list (orderC list now) t, true) := rfl
  generalize NextSide list t now = R at *
  generalize orderC list now = o at *
  rcases Nat.eq_zero_or_pos o.length with e | e
  · have e2 := List.length_eq_zero_iff.1 e
    subst e2
    simp -dsimp -implicitDefEqProofs
    simp [hns]
  · obtain ⟨x, hx⟩ : ∃ x, o[0]? = some x := ⟨_, List.getElem?_eq_getElem e⟩
    have gx := (List.getElem?_eq_some_iff.1 hx).2
    have e0 : (o = []) = False := by simp only [eq_iff_iff, iff_false]; intro h; rw [h] at e; simp at e
    simp -dsimp -implicitDefEqProofs [e0]
    intro hlen
    first
      | refine call_lend (TurnOk_impl t) (by simp) rfl ?_
      | refine call_pure (TurnOk_impl t) (by simp) rfl ?_
      | refine ⟨_, _, TurnOk_impl t, by simp, .inr rfl, ?_⟩
      | refine ⟨_, _, TurnOk_impl t, by simp, .inl rfl, ?_⟩
      | refine callE_pure (TurnOk_impl t) (by simp) (.inr rfl) ?_
      | refine callE_pure (TurnOk_impl t) (by simp) (.inl rfl) ?_
    cases h1 : TurnOk t with
    | false => simp -dsimp -implicitDefEqProofs; simp [hns, h1]
    | true =>
    have hc1 := inRange_iff.1 h1
    have hxl := hlt x (List.mem_of_getElem? hx)
    obtain ⟨c, hc⟩ : ∃ e, list[x]? = some e := ⟨_, List.getElem?_eq_getElem hxl⟩
    have gc := (List.getElem?_eq_some_iff.1 hc).2
    have hup := upAt_get hc
    have hns2 : R = (sideOf list o t, true) := by rw [hns, if_neg]; simp [h1]; exact of_eq_false e0
    have hsd : sideOf list o t = if c.Train.Up ≠ t.Up ∨ t.Count < 3 then c.Train.Up else if o.all fun i => upAt list i == c.Train.Up then c.Train.Up else !c.Train.Up := by
      unfold sideOf; rw [hx, Option.getD_some, hup]
    rw [hsd] at hns2
    by_cases hu : c.Train.Up = t.Up
    rotate_left
    · rw [if_pos (.inl hu)] at hns2
      simp -dsimp -implicitDefEqProofs [e, hx, gx, nenc1, hxl, hc, gc, hu]
      simp [hns2]
    by_cases h3 : t.Count < 3
    · rw [if_pos (.inr h3)] at hns2
      simp -dsimp -implicitDefEqProofs [e, hx, gx, nenc1, hxl, hc, gc, hu, h3]
      simp [hns2, hu]
    rw [if_neg (by simp [hu]; omega)] at hns2
    simp -dsimp -implicitDefEqProofs [e, hx, gx, nenc1, hxl, hc, gc, hu, h3]
    rw [hu] at hns2
    generalize t.Up = up at *
    refine fun _ => loop_rule (ι := Nat) (fun k => k ≤ o.length ∧ ∀ y ∈ o.take k, upAt list y = up) (fun k => stOf [(0, .c (.sl 4 (list.map CallT.enc))), (9, .c (.b up)), (41, .own 14 1 o.length), (42, .c (.i o.length)), (43, .c (.i k))] [(14, .row 1 (o.map nenc1))]) (fun k => o.length - k) 0 (by simp) (by apply le_of <;> simp [AV.refs1, AV.ref0, Obj.refs1, nenc1]) ?_
    rintro k ⟨hk, hall⟩
    rcases Nat.lt_or_ge k o.length with hlt2 | hge
    · obtain ⟨y, hy⟩ : ∃ x, o[k]? = some x := ⟨_, List.getElem?_eq_getElem hlt2⟩
      have gy := (List.getElem?_eq_some_iff.1 hy).2
      have hyl := hlt y (List.mem_of_getElem? hy)
      obtain ⟨d, hd⟩ : ∃ e, list[y]? = some e := ⟨_, List.getElem?_eq_getElem hyl⟩
      have gd := (List.getElem?_eq_some_iff.1 hd).2
      have hupd := upAt_get hd
      by_cases hdu : d.Train.Up = up
      · simp -dsimp -implicitDefEqProofs [hy, gy, lt_t hlt2, hlt2, nenc1, hyl, hd, gd, hdu]
        refine ⟨inI_succ hlt2 hlen, k + 1, ⟨hlt2, fun z hz => ?_⟩, by omega, ?_⟩
        · rw [List.take_succ, hy] at hz
          rcases List.mem_append.1 hz with hz | hz
          · exact hall z hz
          · simp at hz; subst hz; rw [hupd, hdu]
        · apply le_of <;> simp [AV.refs1, AV.ref0, Obj.refs1, nenc1]
      · simp -dsimp -implicitDefEqProofs [hy, gy, lt_t hlt2, hlt2, nenc1, hyl, hd, gd, hdu]
        rw [if_neg (by simp; exact ⟨y, List.mem_of_getElem? hy, by rw [hupd]; exact hdu⟩)] at hns2
        simp [hns2]
    · simp -dsimp -implicitDefEqProofs [lt_f hge]
      rw [List.take_of_length_le hge] at hall
      rw [if_pos (by simpa using hall)] at hns2
      simp [hns2]
def NoteTurn (t : Turn) (up : Bool) : Turn :=
  if TurnOk t = true then if t.Up = up then ⟨up, if 1000000 < t.Count + 1 then 1000000 else t.Count + 1⟩ else ⟨up, 1⟩ else t
theorem NoteTurn_impl (t : Turn) (up : Bool) : PureF Try.prog n_impl_NoteTurn [.agg (t.enc.map .c), .c (.b up)] (.agg ((NoteTurn t up).enc.map .c)) := by
  refine pure_of h_impl_NoteTurn (by simp) fun hwf => ?_
  simp -dsimp -implicitDefEqProofs [c_impl_NoteTurn]
  first
    | refine call_lend (TurnOk_impl t) (by simp) rfl ?_
    | refine call_pure (TurnOk_impl t) (by simp) rfl ?_
    | refine ⟨_, _, TurnOk_impl t, by simp, .inr rfl, ?_⟩
    | refine ⟨_, _, TurnOk_impl t, by simp, .inl rfl, ?_⟩
    | refine callE_pure (TurnOk_impl t) (by simp) (.inr rfl) ?_
    | refine callE_pure (TurnOk_impl t) (by simp) (.inl rfl) ?_
  cases h1 : TurnOk t with
  | false => simp -dsimp -implicitDefEqProofs; simp [NoteTurn, h1]
  | true =>
  have hc1 := inRange_iff.1 h1
  by_cases hu : t.Up = up
  · simp -dsimp -implicitDefEqProofs [hu]
    refine ⟨by unfold inI; omega, ?_⟩
    simp [NoteTurn, h1, hu]


  · simp -dsimp -implicitDefEqProofs [hu]
    simp [NoteTurn, h1, hu]
theorem btoi_c (b : Bool) : PureF Try.prog n_laws_btoi [.c (.b b)] (.c (.i (if b then 1 else 0))) := by
  refine pure_of h_laws_btoi (by simp) fun hwf => ?_
  cases b <;> simp -dsimp -implicitDefEqProofs [c_laws_btoi]
def bAdd (b : List Int) (i d : Int) : List Int := b.set i.toNat (b[i.toNat]?.getD 0 + d)
def post (b : List Int) (e : Entry) : List Int := bAdd (bAdd b e.From (-e.Amount)) e.To e.Amount
theorem iand_le {a m : Int} (h0 : 0 ≤ m) (h1 : m ≤ 9223372036854775807) : 0 ≤ iand a m ∧ iand a m ≤ m := by
  unfold iand
  have h2 : (BitVec.ofInt 64 m).toNat = m.toNat := by
    rw [BitVec.toNat_ofInt, Int.emod_eq_of_lt h0 (by omega)]
  have h3 : (BitVec.ofInt 64 a &&& BitVec.ofInt 64 m).toNat ≤ m.toNat := by rw [BitVec.toNat_and, h2]; exact Nat.and_le_right
  rw [wrap_inI (inI_of (by omega) (by omega))]
  omega
def nenc (n : Nat) : List C := [.u n]
def hNext (h : Int) : Int := IntKind.i64.wrap (IntKind.i64.wrap (h * 6364136223846793005) + 1442695040888963407)
def hVal (h : Int) : Int := iand (ixor (ishr (hNext h) 33) (ishr (hNext h) 45)) 255
def curC (code : List UInt8) (p : Nat × Int) : List C := [.sl 1 (code.map uenc), .i p.1, .i p.2]
def byteN (code : List UInt8) (p : Nat × Int) : Nat × Int := (if p.1 < code.length then p.1 + 1 else p.1, hNext p.2)
def byteV (code : List UInt8) (p : Nat × Int) : Int :=
  match code[p.1]? with
  | some b => iand (hVal p.2 + b.toNat) 255
  | none => hVal p.2
theorem byteN_ok {code : List UInt8} {p : Nat × Int} (h : p.1 ≤ code.length) : (byteN code p).1 ≤ code.length := by
  unfold byteN; dsimp only; split <;> omega
theorem byteV_rng (code : List UInt8) (p : Nat × Int) : 0 ≤ byteV code p ∧ byteV code p ≤ 255 := by
  unfold byteV
  split
  · exact iand_le (by omega) (by omega)
  · exact iand_le (by omega) (by omega)
theorem hVal_rng (h : Int) : 0 ≤ hVal h ∧ hVal h ≤ 255 := iand_le (by omega) (by omega)
theorem u8_lt (b : UInt8) : b.toNat ≤ 255 := by have := b.toNat_lt; omega
theorem l01Byte_c (code : List UInt8) (p : Nat × Int) (hp : p.1 ≤ code.length) : CurF Try.prog n_spec_l01Byte (curC code p) (curC code (byteN code p)) [] (.c (.i (byteV code p))) := by
  refine cur_of h_spec_l01Byte (by simp) fun hwf hwf2 => ?_
  cases hb : code[p.1]? with
  | none =>
    have hge : code.length ≤ p.1 := by simpa using hb
    have hnl : (p.1 < code.length) = False := by simp; omega
    simp -dsimp -implicitDefEqProofs [c_spec_l01Byte, curC, hnl]
    intro _
    simp [byteN, byteV, hNext, hVal, hb, hnl]
  | some b =>
    have hlt : p.1 < code.length := (List.getElem?_eq_some_iff.1 hb).1
    have hr := hVal_rng p.2
    have g1 := (List.getElem?_eq_some_iff.1 hb).2
    have h8 := u8_lt b
    simp only [hVal, hNext] at hr
    simp -dsimp -implicitDefEqProofs [c_spec_l01Byte, curC, hb, g1, hlt, uenc]
    refine fun hl => ⟨by unfold inI; omega, by unfold maxLen at hl; unfold inI; omega, ?_⟩
    simp [byteN, byteV, hNext, hVal, hb, g1, hlt]
def belowN (code : List UInt8) (n : Int) (p : Nat × Int) : Nat × Int :=
  if n ≤ 256 then byteN code p else byteN code (byteN code (byteN code (byteN code p)))
def belowV (code : List UInt8) (n : Int) (p : Nat × Int) : Int :=
  if n ≤ 256 then (byteV code p).tmod n
  else (byteV code p * 16777216 + byteV code (byteN code p) * 65536 + byteV code (byteN code (byteN code p)) * 256 + byteV code (byteN code (byteN code (byteN code p)))).tmod n
theorem belowN_ok {code : List UInt8} {n : Int} {p : Nat × Int} (h : p.1 ≤ code.length) : (belowN code n p).1 ≤ code.length := by
  unfold belowN
  split
  · exact byteN_ok h
  · exact byteN_ok (byteN_ok (byteN_ok (byteN_ok h)))
theorem belowV_rng {code : List UInt8} {n : Int} {p : Nat × Int} (hn : 1 ≤ n) : 0 ≤ belowV code n p ∧ belowV code n p < n := by
  have h1 := byteV_rng code p
  have h2 := byteV_rng code (byteN code p)
  have h3 := byteV_rng code (byteN code (byteN code p))
  have h4 := byteV_rng code (byteN code (byteN code (byteN code p)))
  unfold belowV
  split
  · rw [Int.tmod_eq_emod_of_nonneg (by omega)]
    exact ⟨Int.emod_nonneg _ (by omega), Int.emod_lt_of_pos _ (by omega)⟩
  · rw [Int.tmod_eq_emod_of_nonneg (by omega)]
    exact ⟨Int.emod_nonneg _ (by omega), Int.emod_lt_of_pos _ (by omega)⟩
theorem l01Below_c (code : List UInt8) (n : Int) (p : Nat × Int) (hp : p.1 ≤ code.length) (hn : 1 ≤ n) (hn2 : n ≤ 1000000) : CurF Try.prog n_spec_l01Below (curC code p) (curC code (belowN code n p)) [.c (.i n)] (.c (.i (belowV code n p))) := by
  refine cur_of h_spec_l01Below (by simp) fun hwf hwf2 => ?_
  simp -dsimp -implicitDefEqProofs [c_spec_l01Below]
  have n0 : (n ≤ 0) = False := by simp; omega
  simp -dsimp -implicitDefEqProofs [n0]
  have hv := belowV_rng (code := code) (p := p) hn
  refine fun _ => ⟨fun h => ?_, fun h => ?_⟩
  · skip
    simp only [belowV, belowN, if_pos h] at hv ⊢
    refine call_cur (l01Byte_c code p hp) (by simp ) (by simp) rfl (by simp [freshO]) ?_
    simp -dsimp -implicitDefEqProofs
    refine ⟨by omega, by unfold inI; omega, ?_⟩
    simp [h]; intros; omega
  · skip
    have h' : ¬ n ≤ 256 := by omega
    simp only [belowV, belowN, if_neg h'] at hv ⊢
    have h1 := byteV_rng code p
    have h2 := byteV_rng code (byteN code p)
    have h3 := byteV_rng code (byteN code (byteN code p))
    have h4 := byteV_rng code (byteN code (byteN code (byteN code p)))
    refine call_cur (l01Byte_c code p hp) (by simp ) (by simp) rfl (by simp [freshO]) ?_
    simp -dsimp -implicitDefEqProofs
    refine call_cur (l01Byte_c code (byteN code p) (byteN_ok hp)) (by simp ) (by simp) rfl (by simp [freshO]) ?_
    simp -dsimp -implicitDefEqProofs
    refine call_cur (l01Byte_c code (byteN code (byteN code p)) (byteN_ok (byteN_ok hp))) (by simp ) (by simp) rfl (by simp [freshO]) ?_
    simp -dsimp -implicitDefEqProofs
    refine call_cur (l01Byte_c code (byteN code (byteN code (byteN code p))) (byteN_ok (byteN_ok (byteN_ok hp)))) (by simp ) (by simp) rfl (by simp [freshO]) ?_
    simp -dsimp -implicitDefEqProofs
    refine ⟨by unfold inI; omega, by unfold inI; omega, by unfold inI; omega, by unfold inI; omega, by unfold inI; omega, by unfold inI; omega, by omega, by unfold inI; omega, ?_⟩
    simp [h']
def hStep (h : Int) (b : UInt8) : Int := iand (h * 131 + b.toNat + 7) 1073741823
def hashTo (code : List UInt8) (k : Nat) : Int := (code.take k).foldl hStep (33173 + code.length)
def hash (code : List UInt8) : Int := hashTo code (min code.length 4000)
theorem hashTo_zero {code : List UInt8} : hashTo code 0 = 33173 + code.length := rfl
theorem hashTo_succ {code : List UInt8} {k : Nat} {b : UInt8} (h : code[k]? = some b) : hashTo code (k + 1) = hStep (hashTo code k) b := by
  unfold hashTo; rw [List.take_succ, h, List.foldl_append]; rfl
theorem hStep_rng (h : Int) (b : UInt8) : 0 ≤ hStep h b ∧ hStep h b ≤ 1073741823 := iand_le (by omega) (by omega)
theorem hashTo_rng {code : List UInt8} (hl : code.length ≤ 1048576) : ∀ k : Nat, 0 ≤ hashTo code k ∧ hashTo code k ≤ 1073741823
  | 0 => by rw [hashTo_zero]; omega
  | k + 1 => by
    cases h : code[k]? with
    | none =>
      have hk : code.length ≤ k := by simpa using h
      have : hashTo code (k + 1) = hashTo code k := by unfold hashTo; rw [List.take_of_length_le (by omega), List.take_of_length_le hk]
      rw [this]; exact hashTo_rng hl k
    | some b => rw [hashTo_succ h]; exact hStep_rng _ _
theorem l01New_o (code : List UInt8) (hl : code.length ≤ 1048576) : OwnF Try.prog n_spec_l01New [.c (.sl 1 (code.map uenc))] (.c (.bx (curC code (0, hash code)))) := by
  refine own_of h_spec_l01New (by simp) fun hwf => ?_
  simp -dsimp -implicitDefEqProofs [c_spec_l01New]
  refine fun hlen => ⟨by unfold inI; omega, ?_⟩
  refine loop_rule (ι := Nat) (fun k => k ≤ min code.length 4000) (fun k => stOf [(0, .c (.sl 1 (code.map uenc))), (3, .c (.i (hashTo code k))), (4, .c (.i k))] []) (fun k => min code.length 4000 - k) 0 (by simp) (by apply le_of <;> simp [AV.refs1, AV.ref0, Obj.refs1, hashTo_zero]) ?_
  rintro k hk
  have hr := hashTo_rng hl k
  rcases Nat.lt_or_ge k code.length with hlt | hge
  · obtain ⟨b, hb⟩ : ∃ b, code[k]? = some b := ⟨_, List.getElem?_eq_getElem hlt⟩
    have g1 := (List.getElem?_eq_some_iff.1 hb).2
    have h8 := u8_lt b
    have hs := hashTo_succ hb
    simp only [hStep] at hs
    simp -dsimp -implicitDefEqProofs [hb, g1, hlt, uenc]
    refine fun _ => ⟨fun h4 => ⟨by unfold inI; omega, by unfold inI; omega, by unfold inI; omega, by unfold inI; omega, k + 1, by omega, by omega, ?_⟩, fun h4 => ?_⟩
    · apply le_of <;> simp [AV.refs1, AV.ref0, Obj.refs1, hs]
    · have e : min code.length 4000 = k := by omega
      simp [curC, hash, e, C.plain]
  · have hnl : (k < code.length) = False := by simp; omega
    simp -dsimp -implicitDefEqProofs [hnl]
    intro _
    have e : min code.length 4000 = k := by omega
    simp [curC, hash, e, C.plain]
def onceV (code : List UInt8) (n : Int) (p : Nat × Int) : Bool := decide (belowV code n p = 0)
theorem l01Once_c (code : List UInt8) (n : Int) (p : Nat × Int) (hp : p.1 ≤ code.length) (hn : 1 ≤ n) (hn2 : n ≤ 1000000) : CurF Try.prog n_spec_l01Once (curC code p) (curC code (belowN code n p)) [.c (.i n)] (.c (.b (onceV code n p))) := by
  refine cur_of h_spec_l01Once (by simp) fun hwf hwf2 => ?_
  simp -dsimp -implicitDefEqProofs [c_spec_l01Once]
  refine call_cur (l01Below_c code n p hp hn hn2) (by simp ) (by simp) rfl (by simp [freshO]) ?_
  simp -dsimp -implicitDefEqProofs
  simp [onceV]
def pickV (code : List UInt8) (l : List Int) (p : Nat × Int) : Int := l[(belowV code l.length p).toNat]?.getD 0
def pickN (code : List UInt8) (l : List Int) (p : Nat × Int) : Nat × Int := belowN code l.length p
theorem pickV_mem {code : List UInt8} {l : List Int} {p : Nat × Int} (hl : 1 ≤ l.length) : pickV code l p ∈ l := by
  have h := belowV_rng (code := code) (n := l.length) (p := p) (by omega)
  have hlt : (belowV code l.length p).toNat < l.length := by omega
  unfold pickV
  rw [List.getElem?_eq_getElem hlt]
  exact List.getElem_mem hlt
theorem l01PickInt_g (code : List UInt8) (l : List Int) (p : Nat × Int) (hp : p.1 ≤ code.length) (hl : 1 ≤ l.length) (hl2 : l.length ≤ 1000) : CurG Try.prog n_spec_l01PickInt (curC code p) (curC code (pickN code l p)) 1 (l.map ienc) (.c (.i (pickV code l p))) := by
  have h := belowV_rng (code := code) (n := l.length) (p := p) (by omega)
  have hlt : (belowV code l.length p).toNat < l.length := by omega
  obtain ⟨v, hv⟩ : ∃ v, l[(belowV code l.length p).toNat]? = some v := ⟨_, List.getElem?_eq_getElem hlt⟩
  have gv := (List.getElem?_eq_some_iff.1 hv).2
  have hpv : pickV code l p = v := by simp [pickV, hv]
  refine curG_of h_spec_l01PickInt (by omega) rfl ?_
  simp -dsimp -implicitDefEqProofs [c_spec_l01PickInt]
  intro hlen
  refine call_cur (l01Below_c code l.length p hp (by omega) (by omega)) (by simp ) (by simp) rfl (by simp [freshO]) ?_
  simp -dsimp -implicitDefEqProofs [hv, gv, hlt, h.1, h.2]
  exact ⟨rfl, hpv⟩
theorem pickN_ok {code : List UInt8} {l : List Int} {p : Nat × Int} (h : p.1 ≤ code.length) : (pickN code l p).1 ≤ code.length := belowN_ok h
def lens4 : List Int := [5, 12, 30, 80]
def boatP1 (code : List UInt8) (p : Nat × Int) : Nat × Int := pickN code lens4 p
def boatP2 (code : List UInt8) (p : Nat × Int) : Nat × Int := belowN code 9 (boatP1 code p)
def boatP3 (code : List UInt8) (p : Nat × Int) : Nat × Int := belowN code 30 (boatP2 code p)
def boatP4 (code : List UInt8) (p : Nat × Int) : Nat × Int := belowN code 12 (boatP3 code p)
def boatN (code : List UInt8) (p : Nat × Int) : Nat × Int := belowN code 3 (boatP4 code p)
def boatV (code : List UInt8) (id : Int) (p : Nat × Int) : Boat :=
  ⟨id, pickV code lens4 p, 1 + belowV code 9 (boatP1 code p), 1 + belowV code 30 (boatP2 code p), 1 + belowV code 12 (boatP3 code p), belowV code 3 (boatP4 code p)⟩
theorem boatN_ok {code : List UInt8} {p : Nat × Int} (h : p.1 ≤ code.length) : (boatN code p).1 ≤ code.length := belowN_ok (belowN_ok (belowN_ok (belowN_ok (pickN_ok h))))
theorem l04Boat_c (code : List UInt8) (id : Int) (p : Nat × Int) (hp : p.1 ≤ code.length) : CurF Try.prog n_spec_l04Boat (curC code p) (curC code (boatN code p)) [.c (.i id)] (.agg ((boatV code id p).enc.map .c)) := by
  have p1 : (boatP1 code p).1 ≤ code.length := pickN_ok hp
  have p2 : (boatP2 code p).1 ≤ code.length := belowN_ok p1
  have p3 : (boatP3 code p).1 ≤ code.length := belowN_ok p2
  have p4 : (boatP4 code p).1 ≤ code.length := belowN_ok p3
  have h2 := belowV_rng (code := code) (n := 9) (p := boatP1 code p) (by omega)
  have h3 := belowV_rng (code := code) (n := 30) (p := boatP2 code p) (by omega)
  have h4 := belowV_rng (code := code) (n := 12) (p := boatP3 code p) (by omega)
  have h5 := belowV_rng (code := code) (n := 3) (p := boatP4 code p) (by omega)
  have hpk := l01PickInt_g code lens4 p hp (by simp [lens4]) (by simp [lens4])
  have e4 : lens4.map ienc = [[.i 5], [.i 12], [.i 30], [.i 80]] := rfl
  refine cur_of h_spec_l04Boat (by simp) fun hwf hwf2 => ?_
  simp -dsimp -implicitDefEqProofs [c_spec_l04Boat]
  refine call_curG (rows := [[.i 5], [.i 12], [.i 30], [.i 80]]) (by simpa [e4] using hpk) (by simp) (by simp) rfl ?_
  simp -dsimp -implicitDefEqProofs
  refine call_cur (l01Below_c code 9 (boatP1 code p) p1 (by omega) (by omega)) (by simp [boatP1]) (by simp) rfl (by simp [freshO]) ?_
  simp -dsimp -implicitDefEqProofs
  refine ⟨by unfold inI; omega, ?_⟩
  refine call_cur (l01Below_c code 30 (boatP2 code p) p2 (by omega) (by omega)) (by simp [boatP2]) (by simp) rfl (by simp [freshO]) ?_
  simp -dsimp -implicitDefEqProofs
  refine ⟨by unfold inI; omega, ?_⟩
  refine call_cur (l01Below_c code 12 (boatP3 code p) p3 (by omega) (by omega)) (by simp [boatP3]) (by simp) rfl (by simp [freshO]) ?_
  simp -dsimp -implicitDefEqProofs
  refine ⟨by unfold inI; omega, ?_⟩
  refine call_cur (l01Below_c code 3 (boatP4 code p) p4 (by omega) (by omega)) (by simp [boatP4]) (by simp) rfl (by simp [freshO]) ?_
  simp -dsimp -implicitDefEqProofs
  simp [boatN, boatV]
def eoB (r : List Boat) : List C := [.ow 6 (r.map Boat.enc)]
def addLast (rows : List (List Boat)) (b : Boat) : List (List Boat) := rows.set (rows.length - 1) (rows[rows.length - 1]?.getD [] ++ [b])
def trainTo (code : List UInt8) (id : Int) (p : Nat × Int) : Nat → (Nat × Int) × List (List Boat)
  | 0 => (p, [])
  | k + 1 =>
    let q := trainTo code id p k
    if k = 0 then (boatN code q.1, q.2 ++ [[boatV code (id + k) q.1]])
    else (belowN code 2 (boatN code q.1), if onceV code 2 (boatN code q.1) then addLast q.2 (boatV code (id + k) q.1) else q.2 ++ [[boatV code (id + k) q.1]])
theorem trainTo_ok {code : List UInt8} {id : Int} {p : Nat × Int} (h : p.1 ≤ code.length) : ∀ k : Nat, (trainTo code id p k).1.1 ≤ code.length
  | 0 => h
  | k + 1 => by
    have ih := trainTo_ok (id := id) h k
    simp only [trainTo]
    split
    · exact boatN_ok ih
    · exact belowN_ok (boatN_ok ih)
theorem trainTo_len {code : List UInt8} {id : Int} {p : Nat × Int} : ∀ k : Nat, (trainTo code id p k).2.length ≤ k ∧ (1 ≤ k → 1 ≤ (trainTo code id p k).2.length)
  | 0 => by simp [trainTo]
  | k + 1 => by
    have ih := trainTo_len (code := code) (id := id) (p := p) k
    simp only [trainTo]
    split
    · simp; omega
    · simp only []
      split
      · simp [addLast]; omega
      · simp; omega
theorem trainTo_row {code : List UInt8} {id : Int} {p : Nat × Int} : ∀ k : Nat, ∀ r ∈ (trainTo code id p k).2, r.length ≤ k ∧ 1 ≤ r.length
  | 0, r, h => by simp [trainTo] at h
  | k + 1, r, h => by
    have ih := trainTo_row (code := code) (id := id) (p := p) k
    simp only [trainTo] at h
    split at h
    · rcases List.mem_append.1 h with h | h
      · have := ih r h; omega
      · simp at h; subst h; simp
    · simp only [] at h
      split at h
      · unfold addLast at h
        rcases List.mem_or_eq_of_mem_set h with h | rfl
        · have := ih r h; omega
        · cases hr : (trainTo code id p k).2[(trainTo code id p k).2.length - 1]? with
          | none => simp
          | some r0 => have := ih r0 (List.mem_of_getElem? hr); simp; omega
      · rcases List.mem_append.1 h with h | h
        · have := ih r h; omega
        · simp at h; subst h; simp
theorem setAt_last {rows : List (List Boat)} {z : Nat} {r0 : List Boat} {b : Boat} (h : rows[z]? = some r0) : setAt (setAt (rows.map eoB) z 0 .jk) z 0 (.ow 6 (r0.map Boat.enc ++ [b.enc])) = (rows.set z (r0 ++ [b])).map eoB := by
  have hlt := (List.getElem?_eq_some_iff.1 h).1
  have e1 : (rows.map eoB).getD z [] = eoB r0 := by simp [List.getD, h]
  have e2 : ((rows.map eoB).set z [C.jk]).getD z [] = [C.jk] := by simp [List.getD, hlt]
  have e3 : setAt (rows.map eoB) z 0 .jk = (rows.map eoB).set z [C.jk] := by unfold setAt; rw [e1]; rfl
  rw [e3]
  unfold setAt
  rw [e2, List.set_set, List.map_set]
  simp [eoB]
def trainK (code : List UInt8) (p : Nat × Int) : Nat := (1 + belowV code 4 (belowN code 2 p)).toNat
def trainN (code : List UInt8) (id : Int) (p : Nat × Int) : Nat × Int := (trainTo code id (belowN code 4 (belowN code 2 p)) (trainK code p)).1
def trainV (code : List UInt8) (id : Int) (p : Nat × Int) : Train := ⟨onceV code 2 p, (trainTo code id (belowN code 4 (belowN code 2 p)) (trainK code p)).2⟩
theorem trainK_eq (code : List UInt8) (p : Nat × Int) : (trainK code p : Int) = 1 + belowV code 4 (belowN code 2 p) ∧ 1 ≤ trainK code p ∧ trainK code p ≤ 4 := by
  have h := belowV_rng (code := code) (n := 4) (p := belowN code 2 p) (by omega)
  unfold trainK; omega
set_option maxRecDepth 4000 in
theorem l04Train_c (code : List UInt8) (id : Int) (p : Nat × Int) (hp : p.1 ≤ code.length) (hid : 0 ≤ id ∧ id ≤ 1000000) : CurF Try.prog n_spec_l04Train (curC code p) (curC code (trainN code id p)) [.c (.i id)] (.agg [.c (.b (trainV code id p).Up), .c (.ot 1 ((trainV code id p).Rows.map eoB))]) := by
  refine cur_of h_spec_l04Train (by simp) fun hwf hwf2 => ?_
  have hK := trainK_eq code p
  simp -dsimp -implicitDefEqProofs [c_spec_l04Train]
  refine call_cur (l01Once_c code 2 p hp (by omega) (by omega)) (by simp ) (by simp) rfl (by simp [freshO]) ?_
  simp -dsimp -implicitDefEqProofs
  refine call_cur (l01Below_c code 4 (belowN code 2 p) (belowN_ok hp) (by omega) (by omega)) (by simp ) (by simp) rfl (by simp [freshO]) ?_
  simp -dsimp -implicitDefEqProofs
  refine ⟨by unfold inI; omega, ?_⟩
  have hp0 : (belowN code 4 (belowN code 2 p)).1 ≤ code.length := belowN_ok (belowN_ok hp)
  rw [← hK.1]
  have eN : trainN code id p = (trainTo code id (belowN code 4 (belowN code 2 p)) (trainK code p)).1 := rfl
  have eV : (trainV code id p).Rows = (trainTo code id (belowN code 4 (belowN code 2 p)) (trainK code p)).2 := rfl
  have eU : (trainV code id p).Up = onceV code 2 p := rfl
  rw [eN, eV, eU]
  generalize trainK code p = n at *
  generalize belowN code 4 (belowN code 2 p) = p0 at *
  generalize onceV code 2 p = up at *
  refine loop_rule (ι := Nat × Nat) (fun q => q.1 ≤ n) (fun q => if q.1 = 0 then stOf [(0, .box 0 0), (1000000, .box 0 0), (1, .c (.i id)), (4, .box 4 0), (5, .box 5 0), (6, .c (.i n)), (7, .c (.i 0))] [(0, .box ((curC code p0).map .c)), (4, .box [.c (.b false), .nil 1]), (5, .box [.c (.b up), .nil 1])]
    else stOf [(0, .box 0 0), (1000000, .box 0 0), (1, .c (.i id)), (4, .box 4 0), (5, .box 5 0), (6, .c (.i n)), (7, .c (.i q.1))] [(0, .box ((curC code (trainTo code id p0 q.1).1).map .c)), (4, .box [.c (.b false), .nil 1]), (5, .box [.c (.b up), .own 54 1 (trainTo code id p0 q.1).2.length]), (54, .tr 1 q.2 ((trainTo code id p0 q.1).2.map eoB))]) (fun q => n - q.1) (0, 0) (by simp) (by rw [if_pos rfl]; apply le_of <;> simp [AV.refs1, AV.ref0, Obj.refs1]) ?_
  rintro ⟨k, ver⟩ hk
  simp only at hk
  rcases Nat.eq_zero_or_pos k with e | hk0
  · subst e
    have hn0 : ((0 : Int) < (n : Int)) = True := by simp; omega
    have hn0' : (0 < n) = True := by simp; omega
    rw [if_pos rfl]
    have hs1 : trainTo code id p0 1 = (boatN code p0, [[boatV code id p0]]) := by simp [trainTo]
    simp -dsimp -implicitDefEqProofs [hn0, hn0']
    refine ⟨by unfold inI; omega, ?_⟩
    refine call_cur (l04Boat_c code id p0 hp0) (by simp ) (by simp) rfl (by simp [freshO]) ?_
    simp -dsimp -implicitDefEqProofs
    refine ⟨by unfold inI; omega, 1, by omega, by omega, 0, ?_⟩
    rw [if_neg (by simp)]
    apply le_of <;> simp [AV.refs1, AV.ref0, Obj.refs1, hs1, eoB]
  · have hne : (k = 0) = False := by simp; omega
    simp only [hne, if_false]
    have hq := trainTo_ok (id := id) hp0 k
    have hln := trainTo_len (code := code) (id := id) (p := p0) k
    have hrow := trainTo_row (code := code) (id := id) (p := p0) k
    have hsuc : trainTo code id p0 (k + 1) = (belowN code 2 (boatN code (trainTo code id p0 k).1), if onceV code 2 (boatN code (trainTo code id p0 k).1) then addLast (trainTo code id p0 k).2 (boatV code (id + k) (trainTo code id p0 k).1) else (trainTo code id p0 k).2 ++ [[boatV code (id + k) (trainTo code id p0 k).1]]) := by
      simp only [trainTo, hne, if_false]
    generalize hQ : trainTo code id p0 k = Q at *
    obtain ⟨q, rows⟩ := Q
    simp only at hq hln hsuc hrow ⊢
    rcases Nat.lt_or_ge k n with hlt | hge
    · simp -dsimp -implicitDefEqProofs [lt_t hlt, hlt]
      refine ⟨by unfold inI; omega, ?_⟩
      refine call_cur (l04Boat_c code (id + k) q hq) (by simp ) (by simp) rfl (by simp [freshO]) ?_
      simp -dsimp -implicitDefEqProofs
      refine ⟨fun _ => ?_, fun h => by omega⟩
      refine call_cur (l01Once_c code 2 (boatN code q) (boatN_ok hq) (by omega) (by omega)) (by simp ) (by simp) rfl (by simp [freshO]) ?_
      generalize boatV code (id + k) q = b at *
      have hr1 := hln.2 (by omega)
      cases ho : onceV code 2 (boatN code q) with
      | false =>
        rw [ho] at hsuc
        simp -dsimp -implicitDefEqProofs
        have hl := hln.1
        refine ⟨by omega, by unfold inI; omega, k + 1, hlt, by omega, 0, ?_⟩
        rw [if_neg (by omega)]
        apply le_of <;> simp [AV.refs1, AV.ref0, Obj.refs1, hsuc, eoB]
      | true =>
        rw [ho] at hsuc
        obtain ⟨r0, hr0⟩ : ∃ r, rows[rows.length - 1]? = some r := ⟨_, List.getElem?_eq_getElem (by omega)⟩
        have g0 := (List.getElem?_eq_some_iff.1 hr0).2
        have hadd : addLast rows b = rows.set (rows.length - 1) (r0 ++ [b]) := by simp [addLast, hr0]
        have hl := hln.1
        have ez : ((rows.length : Int) - 1) = ((rows.length - 1 : Nat) : Int) := by omega
        have m1 : rows.length - 1 < rows.length := by omega
        obtain ⟨z, hz⟩ : ∃ z, z = rows.length - 1 := ⟨_, rfl⟩
        rw [← hz] at hr0 hadd ez m1
        have hrl := hrow r0 (List.mem_of_getElem? hr0)
        have g0 := (List.getElem?_eq_some_iff.1 hr0).2
        have hset := setAt_last (b := b) hr0
        have hjl : (setAt (rows.map eoB) z 0 C.jk).length = rows.length := by simp [setAt]
        have htk : (r0.map Boat.enc ++ [b.enc]).take (r0.length + 1) = r0.map Boat.enc ++ [b.enc] := List.take_of_length_le (by simp)
        simp only [Boat.enc] at htk hset
        simp -dsimp -implicitDefEqProofs [ez, hr0, m1, eoB, g0, hjl, htk]
        refine fun _ => ⟨by unfold inI; omega, fun _ => ⟨by unfold inI; omega, by omega, by unfold inI; omega, k + 1, hlt, by omega, ver + 2, ?_⟩⟩
        rw [if_neg (by omega)]
        apply le_of <;> simp [AV.refs1, AV.ref0, Obj.refs1, hsuc, hadd, g0, htk, hset]
    · have : k = n := by omega
      subst this
      simp -dsimp -implicitDefEqProofs
      rw [hQ, List.take_of_length_le (by simp)]
      exact ⟨rfl, rfl⟩
def callEo (c : CallT) : List C := [.b c.Train.Up, .ot 1 (c.Train.Rows.map eoB), .i c.Since, .i c.Booked]
def ageL : List Int := [0, 5, 19, 20, 45, 70]
def bookL : List Int := [-1, -1, -1, 97, 100, 105]
def callP1 (code : List UInt8) (id : Int) (p : Nat × Int) : Nat × Int := trainN code id p
def callP2 (code : List UInt8) (id : Int) (p : Nat × Int) : Nat × Int := pickN code ageL (callP1 code id p)
def callN (code : List UInt8) (id : Int) (p : Nat × Int) : Nat × Int := pickN code bookL (callP2 code id p)
def callV (code : List UInt8) (id : Int) (p : Nat × Int) : CallT :=
  ⟨trainV code id p, 100 - pickV code ageL (callP1 code id p), pickV code bookL (callP2 code id p)⟩
theorem trainN_ok {code : List UInt8} {id : Int} {p : Nat × Int} (h : p.1 ≤ code.length) : (trainN code id p).1 ≤ code.length := trainTo_ok (belowN_ok (belowN_ok h)) _
theorem callN_ok {code : List UInt8} {id : Int} {p : Nat × Int} (h : p.1 ≤ code.length) : (callN code id p).1 ≤ code.length := pickN_ok (pickN_ok (trainN_ok h))
theorem age_rng {x : Int} (h : x ∈ ageL) : 0 ≤ x ∧ x ≤ 70 := by
  simp [ageL] at h
  omega
theorem book_rng {x : Int} (h : x ∈ bookL) : -1 ≤ x ∧ x ≤ 105 := by
  simp [bookL] at h
  omega
theorem l06Call_c (code : List UInt8) (id : Int) (p : Nat × Int) (hp : p.1 ≤ code.length) (hid : 0 ≤ id ∧ id ≤ 1000000) : CurF Try.prog n_spec_l06Call (curC code p) (curC code (callN code id p)) [.c (.i id), .c (.i 100)] (.agg ((callEo (callV code id p)).map .c)) := by
  have p1 : (callP1 code id p).1 ≤ code.length := trainN_ok hp
  have p2 : (callP2 code id p).1 ≤ code.length := pickN_ok p1
  have h1 := l01PickInt_g code ageL (callP1 code id p) p1 (by simp [ageL]) (by simp [ageL])
  have h2 := l01PickInt_g code bookL (callP2 code id p) p2 (by simp [bookL]) (by simp [bookL])
  have r1 := age_rng (pickV_mem (code := code) (l := ageL) (p := callP1 code id p) (by simp [ageL]))
  have r2 := book_rng (pickV_mem (code := code) (l := bookL) (p := callP2 code id p) (by simp [bookL]))
  have e1 : ageL.map ienc = [[.i 0], [.i 5], [.i 19], [.i 20], [.i 45], [.i 70]] := rfl
  have e2 : bookL.map ienc = [[.i (-1)], [.i (-1)], [.i (-1)], [.i 97], [.i 100], [.i 105]] := rfl
  rw [e1] at h1
  rw [e2] at h2
  refine cur_of h_spec_l06Call (by simp) fun hwf hwf2 => ?_
  simp -dsimp -implicitDefEqProofs [c_spec_l06Call]
  refine call_cur (l04Train_c code id p hp hid) (by simp ) (by simp) rfl (by simp [freshO]) ?_
  simp -dsimp -implicitDefEqProofs
  refine call_curG (rows := [[.i 0], [.i 5], [.i 19], [.i 20], [.i 45], [.i 70]]) h1 (by simp [callP1]) (by simp) rfl ?_
  simp -dsimp -implicitDefEqProofs
  refine ⟨by unfold inI; omega, by unfold inI; omega, by unfold inI; omega, ?_⟩
  refine call_curG (rows := [[.i (-1)], [.i (-1)], [.i (-1)], [.i 97], [.i 100], [.i 105]]) h2 (by simp [callP2]) (by simp) rfl ?_
  have hmx : (if pickV code ageL (callP1 code id p) < 100 then 100 - pickV code ageL (callP1 code id p) else 0) = 100 - pickV code ageL (callP1 code id p) := if_pos (by omega)
  simp -dsimp -implicitDefEqProofs [hmx]
  simp [callN, callV, callEo, take_full]
def callPt (code : List UInt8) (n : Nat) (p : Nat × Int) : Nat → Nat × Int
  | 0 => p
  | j + 1 => callN code (10 * (n - j : Nat)) (callPt code n p j)
def callS (code : List UInt8) (n : Nat) (p : Nat × Int) : Nat → List CallT
  | 0 => []
  | j + 1 => callS code n p j ++ [callV code (10 * (n - j : Nat)) (callPt code n p j)]
theorem callPt_ok {code : List UInt8} {n : Nat} {p : Nat × Int} (h : p.1 ≤ code.length) : ∀ j : Nat, (callPt code n p j).1 ≤ code.length
  | 0 => h
  | j + 1 => callN_ok (callPt_ok h j)
theorem callS_len {code : List UInt8} {n : Nat} {p : Nat × Int} : ∀ j : Nat, (callS code n p j).length = j
  | 0 => rfl
  | j + 1 => by simp [callS, callS_len j]
def drawnN (code : List UInt8) : Nat := (belowV code 7 (0, hash code)).toNat
def drawnCalls (code : List UInt8) : List CallT := callS code (drawnN code) (belowN code 7 (0, hash code)) (drawnN code)
theorem drawnN_eq (code : List UInt8) : (drawnN code : Int) = belowV code 7 (0, hash code) ∧ drawnN code ≤ 6 := by
  have h := belowV_rng (code := code) (n := 7) (p := (0, hash code)) (by omega)
  unfold drawnN; omega
theorem DrawCalls_o (code : List UInt8) (hl : code.length ≤ 1048576) : OwnF Try.prog n_spec_DrawCalls [.c (.sl 1 (code.map uenc))] (.c (.ot 4 ((drawnCalls code).map callEo))) := by
  refine own_of h_spec_DrawCalls (by simp) fun hwf => ?_
  have hpl : (∀ x, x ∈ curC code (0, hash code) → x.plain = true) = True := by simp [curC, C.plain]
  have hK := drawnN_eq code
  simp -dsimp -implicitDefEqProofs [c_spec_DrawCalls]
  refine call_ownD (l01New_o code hl) (by simp) rfl (by simp [freshO, hpl]) ?_
  simp -dsimp -implicitDefEqProofs [hpl]
  refine call_cur (l01Below_c code 7 (0, hash code) (by simp) (by omega) (by omega)) (by simp [hpl]) (by simp) rfl (by simp [freshO, hpl]) ?_
  have hp0 : (belowN code 7 (0, hash code)).1 ≤ code.length := belowN_ok (by simp)
  simp -dsimp -implicitDefEqProofs
  rw [← hK.1]
  have eD : drawnCalls code = callS code (drawnN code) (belowN code 7 (0, hash code)) (drawnN code) := rfl
  rw [eD]
  generalize drawnN code = n at *
  generalize belowN code 7 (0, hash code) = p0 at *
  refine loop_rule (ι := Nat) (fun j => j ≤ n) (fun j => stOf [(3, .box 7 0), (4, .own 8 4 j), (5, .c (.i (n - j)))] [(7, .box ((curC code (callPt code n p0 j)).map .c)), (8, if j = 0 then .row 4 [] else .tr 4 0 ((callS code n p0 j).map callEo))]) (fun j => n - j) 0 (by simp) (by apply le_of <;> simp [AV.refs1, AV.ref0, Obj.refs1, callPt]) ?_
  rintro j hj
  have hq := callPt_ok (n := n) hp0 j
  have hlen := callS_len (code := code) (n := n) (p := p0) j
  rcases Nat.lt_or_ge j n with hlt | hge
  · have hp1 : callPt code n p0 (j + 1) = callN code (10 * (n - j : Nat)) (callPt code n p0 j) := rfl
    have hs1 : callS code n p0 (j + 1) = callS code n p0 j ++ [callV code (10 * (n - j : Nat)) (callPt code n p0 j)] := rfl
    have hgt : (0 < (n : Int) - (j : Int)) = True := by simp; omega
    have hid : (10 : Int) * ((n : Int) - (j : Int)) = 10 * (n - j : Nat) := by omega
    have hcl := l06Call_c code (10 * (n - j : Nat)) (callPt code n p0 j) hq (by omega)
    generalize callPt code n p0 j = q at *
    generalize callS code n p0 j = cs at *
    generalize hc : callV code (10 * (n - j : Nat)) q = c at *
    rcases Nat.eq_zero_or_pos j with e | hj0
    · subst e
      have : cs = [] := List.length_eq_zero_iff.1 hlen
      subst this
      simp -dsimp -implicitDefEqProofs [hgt]
      refine ⟨fun _ => ?_, fun h => by omega⟩
      refine ⟨by unfold inI; omega, ?_⟩
      rw [show (10 : Int) * (n : Int) = 10 * (n - 0 : Nat) by simp]
      refine call_cur hcl (by simp) (by simp) rfl (by simp [freshO, callEo]) ?_
      simp -dsimp -implicitDefEqProofs [callEo, take_full]
      refine ⟨by unfold inI; omega, 1, by omega, by omega, ?_⟩
      apply le_of <;> simp [AV.refs1, AV.ref0, Obj.refs1, callEo, take_full, hp1, hs1] <;> omega
    · have hne : (j = 0) = False := by simp; omega
      simp -dsimp -implicitDefEqProofs [hgt, hne]
      refine ⟨fun _ => ?_, fun h => by omega⟩
      refine ⟨by unfold inI; omega, ?_⟩
      rw [hid]
      refine call_cur hcl (by simp) (by simp) rfl (by simp [freshO, callEo]) ?_
      simp -dsimp -implicitDefEqProofs [callEo, take_full]
      refine ⟨hlen.symm, by omega, by unfold inI; omega, j + 1, hlt, by omega, ?_⟩
      apply le_of <;> simp [AV.refs1, AV.ref0, Obj.refs1, callEo, take_full, hp1, hs1, hlen] <;> omega
  · have : j = n := by omega
    subst this
    simp -dsimp -implicitDefEqProofs
    by_cases e : j = 0
    · subst e; simp [callS]
    · rw [if_neg e]
      simp
      rw [List.take_of_length_le (by simp [hlen])]
theorem addLast_flat {rows : List (List Boat)} {b : Boat} (h : 1 ≤ rows.length) : (addLast rows b).flatten = rows.flatten ++ [b] := by
  rcases List.eq_nil_or_concat rows with e | ⟨l, r, e⟩
  · subst e; simp at h
  · rw [List.concat_eq_append] at e
    subst e
    simp [addLast]
theorem trainTo_flat {code : List UInt8} {id : Int} {p : Nat × Int} (k : Nat) : (trainTo code id p (k + 1)).2.flatten = (trainTo code id p k).2.flatten ++ [boatV code (id + k) (trainTo code id p k).1] := by
  have ih := trainTo_len (code := code) (id := id) (p := p) k
  simp only [trainTo]
  split
  · simp
  · simp only []
    split
    · rw [addLast_flat (by omega)]
    · simp
theorem trainTo_ids {code : List UInt8} {id : Int} {p : Nat × Int} : ∀ k : Nat, (trainTo code id p k).2.flatten.map idOf = (List.range k).map fun i : Nat => id + (i : Int)
  | 0 => rfl
  | k + 1 => by
    rw [trainTo_flat, List.map_append, trainTo_ids k, List.range_succ, List.map_append]
    rfl
theorem lens4_rng {x : Int} (h : x ∈ lens4) : 1 ≤ x ∧ x ≤ 200 := by
  simp [lens4] at h; omega
theorem boatV_ok {code : List UInt8} {id : Int} {p : Nat × Int} (h : 1 ≤ id ∧ id ≤ 9999) : BoatOk (boatV code id p) = true := by
  have h1 := lens4_rng (pickV_mem (code := code) (l := lens4) (p := p) (by simp [lens4]))
  have h2 := belowV_rng (code := code) (n := 9) (p := boatP1 code p) (by omega)
  have h3 := belowV_rng (code := code) (n := 30) (p := boatP2 code p) (by omega)
  have h4 := belowV_rng (code := code) (n := 12) (p := boatP3 code p) (by omega)
  have h5 := belowV_rng (code := code) (n := 3) (p := boatP4 code p) (by omega)
  simp only [BoatOk, boatV, Bool.and_eq_true]
  exact ⟨⟨⟨⟨⟨inRange_iff.2 h, inRange_iff.2 h1⟩, inRange_iff.2 ⟨by omega, by omega⟩⟩, inRange_iff.2 ⟨by omega, by omega⟩⟩, inRange_iff.2 ⟨by omega, by omega⟩⟩, inRange_iff.2 ⟨by omega, by omega⟩⟩
theorem trainTo_all {code : List UInt8} {id : Int} {p : Nat × Int} : ∀ k : Nat, 1 ≤ id → id + k ≤ 9999 → ∀ b ∈ (trainTo code id p k).2.flatten, BoatOk b = true
  | 0, _, _, b, h => by simp [trainTo] at h
  | k + 1, h1, h2, b, h => by
    rw [trainTo_flat] at h
    rcases List.mem_append.1 h with h | h
    · exact trainTo_all k h1 (by omega) b h
    · simp only [List.mem_singleton] at h
      subst h
      exact boatV_ok ⟨by omega, by omega⟩
theorem trainV_ok {code : List UInt8} {id : Int} {p : Nat × Int} (h : 1 ≤ id ∧ id ≤ 9000) : TrainOk (trainV code id p) = true := by
  obtain ⟨_, k1, k4⟩ := trainK_eq code p
  have hb : (trainV code id p).boats = (trainTo code id (belowN code 4 (belowN code 2 p)) (trainK code p)).2.flatten := rfl
  have hr : (trainV code id p).Rows = (trainTo code id (belowN code 4 (belowN code 2 p)) (trainK code p)).2 := rfl
  simp only [TrainOk, Bool.and_eq_true, List.all_eq_true, decide_eq_true_eq]
  have hids := trainTo_ids (code := code) (id := id) (p := belowN code 4 (belowN code 2 p)) (trainK code p)
  have hlen := congrArg List.length hids
  simp only [List.length_map, List.length_range] at hlen
  rw [hb, hr]
  refine ⟨⟨⟨fun r hr => full_iff.2 ?_, trainTo_all _ (by omega) (by omega)⟩, ?_⟩, inRange_iff.2 ?_⟩
  · have := trainTo_row _ r hr; omega
  · rw [hids]
    refine List.Pairwise.map _ ?_ List.nodup_range
    intro a b h e
    exact h (by omega)
  · rw [hlen]; omega
theorem trainV_small {code : List UInt8} {id : Int} {p : Nat × Int} : (trainV code id p).small := by
  obtain ⟨_, k1, k4⟩ := trainK_eq code p
  have h1 := trainTo_len (code := code) (id := id) (p := belowN code 4 (belowN code 2 p)) (trainK code p)
  refine ⟨by simp only [trainV]; omega, fun r hr => ⟨?_, fun _ _ => trivial⟩⟩
  have := trainTo_row _ r hr
  omega
end Go.Proofs.Ytfmgadchjiplmaa
