/- The machine, part 34: several results. -/
import Derived.Test.YtmimbhooaidelaaGreatMA6
set_option linter.all false
/- The abstract machine, part 34: several results, some of which lie in variables' cells. -/
namespace Go.Proofs.YtmimbhooaidelaaGreat
open Go.RowKit

def res1 (s : St) (r : RS) (x : AV) : Prop :=
  match r with
  | .t n => s.env n = x ∧ notTup x
  | .cl n k => ∃ id cells, s.env n = .box id 0 ∧ s.ob id = .box cells ∧ cells.length = k ∧ x = .agg cells
  | .c1 n => ∃ id, s.env n = .box id 0 ∧ s.ob id = .box [x]
def resL (s : St) : List RS → List AV → Prop
  | [], [] => True
  | r :: rs, x :: xs => res1 s r x ∧ resL s rs xs
  | _, _ => False
theorem resAV_of {s : St} {r : RS} {x : AV} (h : res1 s r x) : resAV s r = some x := by
  cases r with
  | t n =>
    obtain ⟨h1, h2⟩ := h
    simp only [resAV, h1]
    cases x <;> first | rfl | exact h2.elim
  | cl n k =>
    obtain ⟨id, cells, h1, h2, h3, rfl⟩ := h
    simp only [resAV, h1, h2, h3, if_true]
  | c1 n =>
    obtain ⟨id, h1, h2⟩ := h
    simp only [resAV, h1, h2]
theorem resAVs_of {s : St} : ∀ {rs : List RS} {xs : List AV}, resL s rs xs → resAVs s rs = some xs
  | [], [], _ => rfl
  | [], _ :: _, h => h.elim
  | _ :: _, [], h => h.elim
  | r :: rs, x :: xs, h => by simp only [resAVs, resAV_of h.1, resAVs_of h.2]
/-- What the result variables hold, one after the other. -/
def tupK (k : AV → Prop) : AV → Prop
  | .tup _ => False
  | x => k x
def boxK (n : Nat) (k : AV → Prop) : Obj → Prop
  | .box cells => cells.length = n ∧ k (.agg cells)
  | _ => False
def clK (s : St) (n : Nat) (k : AV → Prop) : AV → Prop
  | .box id 0 => boxK n k (s.ob id)
  | _ => False
def box1K (k : AV → Prop) : Obj → Prop
  | .box [x] => k x
  | _ => False
def c1K (s : St) (k : AV → Prop) : AV → Prop
  | .box id 0 => box1K k (s.ob id)
  | _ => False
def resK (s : St) (r : RS) (k : AV → Prop) : Prop :=
  match r with
  | .t n => tupK k (s.env n)
  | .cl n m => clK s m k (s.env n)
  | .c1 n => c1K s k (s.env n)
@[simp] theorem resK_t {s : St} {n : Nat} {k : AV → Prop} : resK s (.t n) k = tupK k (s.env n) := rfl
@[simp] theorem resK_cl {s : St} {n m : Nat} {k : AV → Prop} : resK s (.cl n m) k = clK s m k (s.env n) := rfl
@[simp] theorem resK_c1 {s : St} {n : Nat} {k : AV → Prop} : resK s (.c1 n) k = c1K s k (s.env n) := rfl
@[simp] theorem clK_box {s : St} {n id : Nat} {k : AV → Prop} : clK s n k (.box id 0) = boxK n k (s.ob id) := rfl
@[simp] theorem boxK_box {n : Nat} {k : AV → Prop} {cells : List AV} : boxK n k (.box cells) = (cells.length = n ∧ k (.agg cells)) := rfl
@[simp] theorem c1K_box {s : St} {id : Nat} {k : AV → Prop} : c1K s k (.box id 0) = box1K k (s.ob id) := rfl
@[simp] theorem box1K_box {k : AV → Prop} {x : AV} : box1K k (.box [x]) = k x := rfl
@[simp] theorem tupK_c {k : AV → Prop} {c : C} : tupK k (.c c) = k (.c c) := rfl
@[simp] theorem tupK_own {k : AV → Prop} {id q n : Nat} : tupK k (.own id q n) = k (.own id q n) := rfl
@[simp] theorem tupK_nil {k : AV → Prop} {q : Nat} : tupK k (.nil q) = k (.nil q) := rfl
@[simp] theorem tupK_agg {k : AV → Prop} {l : List AV} : tupK k (.agg l) = k (.agg l) := rfl
@[simp] theorem tupK_clip {k : AV → Prop} {q : Nat} {r : List (List C)} : tupK k (.clip q r) = k (.clip q r) := rfl
theorem resK_get {s : St} {r : RS} {k : AV → Prop} (h : resK s r k) : ∃ x, res1 s r x ∧ k x := by
  cases r with
  | t n =>
    simp only [resK] at h
    refine ⟨s.env n, ⟨rfl, ?_⟩, ?_⟩ <;> (revert h; generalize s.env n = x; cases x <;> intro h <;> first | trivial | exact h | exact h.elim)
  | cl n m =>
    simp only [resK] at h
    cases hx : s.env n <;> rw [hx] at h <;> first | exact h.elim | skip
    rename_i id off
    cases off <;> first | exact h.elim | skip
    rw [clK_box] at h
    cases ho : s.ob id <;> rw [ho] at h <;> first | exact h.elim | skip
    rename_i cells
    exact ⟨_, ⟨id, cells, hx, ho, h.1, rfl⟩, h.2⟩
  | c1 n =>
    simp only [resK] at h
    cases hx : s.env n <;> rw [hx] at h <;> first | exact h.elim | skip
    rename_i id off
    cases off <;> first | exact h.elim | skip
    rw [c1K_box] at h
    cases ho : s.ob id <;> rw [ho] at h <;> first | exact h.elim | skip
    rename_i cells
    match cells, h, ho with
    | [x], h, ho => exact ⟨x, ⟨id, hx, ho⟩, h⟩
theorem ownP_two {s : St} {r1 r2 : RS} {y1 y2 : AV} (h : resK s r1 fun x1 => resK s r2 fun x2 => own2 s x1 y1 ∧ own2 s x2 y2 ∧ (x1.oids ++ x2.oids).Nodup) : ownP s [r1, r2] (.tup [y1, y2]) := by
  obtain ⟨x1, h1, h⟩ := resK_get h
  obtain ⟨x2, h2, o1, o2, hn⟩ := resK_get h
  unfold ownP
  rw [resAVs_of (rs := [r1, r2]) (xs := [x1, x2]) ⟨h1, h2, trivial⟩]
  exact ⟨[y1, y2], rfl, ⟨o1, o2, trivial⟩, by simpa using hn⟩
theorem ownP_three {s : St} {r1 r2 r3 : RS} {y1 y2 y3 : AV} (h : resK s r1 fun x1 => resK s r2 fun x2 => resK s r3 fun x3 => own2 s x1 y1 ∧ own2 s x2 y2 ∧ own2 s x3 y3 ∧ (x1.oids ++ (x2.oids ++ x3.oids)).Nodup) : ownP s [r1, r2, r3] (.tup [y1, y2, y3]) := by
  obtain ⟨x1, h1, h⟩ := resK_get h
  obtain ⟨x2, h2, h⟩ := resK_get h
  obtain ⟨x3, h3, o1, o2, o3, hn⟩ := resK_get h
  unfold ownP
  rw [resAVs_of (rs := [r1, r2, r3]) (xs := [x1, x2, x3]) ⟨h1, h2, h3, trivial⟩]
  exact ⟨[y1, y2, y3], rfl, ⟨o1, o2, o3, trivial⟩, by simpa using hn⟩
end Go.Proofs.YtmimbhooaidelaaGreat

