/- The program's replyTo and goesOn: the games of so many rounds. Conditions: the structures are valid, the lists are of their elements. -/
import Derived.Test.YtnhlhjehocngcaaDoorWith
import Derived.Deep.RegionHeld3
import Derived.Outline
namespace Go.Proofs.YtnhlhjehocngcaaDoor
open Go.RowKit
set_option linter.unusedVariables false

/-- The least winning reply. -/
def replyB (a : Gs.St) (la : List Nat) (b : Gs.St) (lb : List Nat) (k x : Nat) : Option Nat := (List.range b.n).find? fun y => Gs.still a la b lb x y && Gs.goes k a (la ++ [x]) b (lb ++ [y])
def optV : Option Nat → Value
  | some y => .tuple #[.int .i64 (y : Int), .bool true]
  | none => .tuple #[.int .i64 0, .bool false]
theorem goes_reply (k : Nat) (a : Gs.St) (la : List Nat) (b : Gs.St) (lb : List Nat) :
    Gs.goes (k + 1) a la b lb = (((List.range a.n).all fun x => (replyB a la b lb k x).isSome) && ((List.range b.n).all fun y => (replyB b lb a la k y).isSome)) := by
  simp only [Gs.goes, replyB]
  congr 1 <;> congr 1 <;> funext x <;> rw [Bool.eq_iff_iff] <;> simp

/-- Two structures and lists of their elements. -/
structure Pos (n : Nat) (S R : ByteArray) (m : Nat) (S2 R2 : ByteArray) (la lb : List Nat) (k : Nat) : Prop where
  hS : S.size = n
  hR : R.size = n * n
  hn : n ≤ 8
  hS2 : S2.size = m
  hR2 : R2.size = m * m
  hm : m ≤ 8
  hl : la.length = lb.length
  hl8 : la.length + k ≤ 8
  ha : ∀ z ∈ la, z < n
  hb : ∀ z ∈ lb, z < m
theorem Pos.swap {n : Nat} {S R : ByteArray} {m : Nat} {S2 R2 : ByteArray} {la lb : List Nat} {k : Nat} (h : Pos n S R m S2 R2 la lb k) : Pos m S2 R2 n S R lb la k :=
  ⟨h.hS2, h.hR2, h.hm, h.hS, h.hR, h.hn, h.hl.symm, by rw [← h.hl]; exact h.hl8, h.hb, h.ha⟩
theorem Pos.more {n : Nat} {S R : ByteArray} {m : Nat} {S2 R2 : ByteArray} {la lb : List Nat} {k x y : Nat} (h : Pos n S R m S2 R2 la lb (k + 1)) (hx : x < n) (hy : y < m) : Pos n S R m S2 R2 (la ++ [x]) (lb ++ [y]) k := by
  refine ⟨h.hS, h.hR, h.hn, h.hS2, h.hR2, h.hm, by simp [h.hl], by have := h.hl8; simp; omega, fun z hz => ?_, fun z hz => ?_⟩
  · rcases List.mem_append.1 hz with hz | hz
    · exact h.ha z hz
    · simp at hz; omega
  · rcases List.mem_append.1 hz with hz | hz
    · exact h.hb z hz
    · simp at hz; omega

theorem find_at {p : Nat → Bool} {m y : Nat} (hy : y < m) (h : ∀ z, z < y → p z = false) (hp : p y = true) : (List.range m).find? p = some y := by
  rw [List.find?_eq_some_iff_append]
  refine ⟨hp, List.range y, (List.range m).drop (y + 1), ?_, ?_⟩
  · have : (List.range m) = (List.range m).take y ++ (List.range m).drop y := (List.take_append_drop _ _).symm
    rw [this]
    congr 1
    · rw [List.take_range]; congr 1; omega
    · rw [List.take_append_drop, List.drop_eq_getElem_cons (by simpa using hy)]
      simp
  · intro z hz
    have := h z (List.mem_range.1 hz)
    simp [this]
theorem find_none {p : Nat → Bool} {m : Nat} (h : ∀ z, z < m → p z = false) : (List.range m).find? p = none := by
  rw [List.find?_eq_none]
  intro z hz
  have := h z (List.mem_range.1 hz)
  simp [this]

end Go.Proofs.YtnhlhjehocngcaaDoor
/- The program's goesOn and secondWins: the games of so many rounds. Conditions: the structures are valid, the lists are of their elements. -/
namespace Go.Proofs.YtnhlhjehocngcaaDoor
open Go.RowKit
set_option linter.unusedVariables false

theorem optV_form (o : Option Nat) : ∃ p : Int, optV o = .tuple #[.int .i64 p, .bool o.isSome] := by
  cases o
  · exact ⟨0, rfl⟩
  · exact ⟨_, rfl⟩
theorem goes_no1 {k : Nat} {a : Gs.St} {la : List Nat} {b : Gs.St} {lb : List Nat} {x : Nat} (hx : x < a.n) (h : (replyB a la b lb k x).isSome = false) : Gs.goes (k + 1) a la b lb = false := by
  rw [goes_reply, ← Bool.not_eq_true]
  intro hh
  rw [Bool.and_eq_true] at hh
  have := List.all_eq_true.1 hh.1 x (List.mem_range.2 hx)
  rw [h] at this; cases this
theorem goes_no2 {k : Nat} {a : Gs.St} {la : List Nat} {b : Gs.St} {lb : List Nat} {y : Nat} (hy : y < b.n) (h : (replyB b lb a la k y).isSome = false) : Gs.goes (k + 1) a la b lb = false := by
  rw [goes_reply, ← Bool.not_eq_true]
  intro hh
  rw [Bool.and_eq_true] at hh
  have := List.all_eq_true.1 hh.2 y (List.mem_range.2 hy)
  rw [h] at this; cases this
theorem goes_yes {k : Nat} {a : Gs.St} {la : List Nat} {b : Gs.St} {lb : List Nat} (h : ∀ x, x < a.n → (replyB a la b lb k x).isSome = true) (h' : ∀ y, y < b.n → (replyB b lb a la k y).isSome = true) : Gs.goes (k + 1) a la b lb = true := by
  rw [goes_reply, Bool.and_eq_true]
  exact ⟨List.all_eq_true.2 fun x hx => h x (List.mem_range.1 hx), List.all_eq_true.2 fun x hx => h' x (List.mem_range.1 hx)⟩
theorem same_swap {a b : Gs.St} {la lb : List Nat} (hl : la.length = lb.length) : Gs.same b lb a la = Gs.same a la b lb := by
  rw [Bool.eq_iff_iff, Gs.same_iff la.length lb la hl.symm rfl, Gs.same_iff lb.length la lb hl rfl]
  exact ⟨Eq.symm, Eq.symm⟩

end Go.Proofs.YtnhlhjehocngcaaDoor
