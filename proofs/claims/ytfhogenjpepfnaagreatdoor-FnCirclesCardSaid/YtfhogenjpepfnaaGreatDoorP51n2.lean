/- Contracts of the program's functions and what they compute: part 2. Conditions: those that each theorem states. -/
import Derived.Test.YtfhogenjpepfnaaGreatDoorP51n1
namespace Go.Proofs.YtfhogenjpepfnaaGreatDoor
namespace Col
set_option linter.unusedVariables false
/-- The order of two lists, as a number. -/
def cmp : List Nat → List Nat → Int
  | [], [] => 0
  | [], _ :: _ => -1
  | _ :: _, [] => 1
  | x :: l, y :: m => if x < y then -1 else if y < x then 1 else cmp l m
theorem cmp_self : ∀ l, cmp l l = 0
  | [] => rfl
  | x :: l => by simp [cmp, cmp_self l]
theorem cmp_eq : ∀ {l m : List Nat}, cmp l m = 0 → l = m
  | [], [], _ => rfl
  | [], _ :: _, h => by simp [cmp] at h
  | _ :: _, [], h => by simp [cmp] at h
  | x :: l, y :: m, h => by
    unfold cmp at h
    split at h
    · cases h
    · split at h
      · cases h
      · have : x = y := by omega
        rw [this, cmp_eq h]
theorem cmp_anti : ∀ l m : List Nat, cmp m l = - cmp l m
  | [], [] => rfl
  | [], _ :: _ => rfl
  | _ :: _, [] => rfl
  | x :: l, y :: m => by
    unfold cmp
    by_cases h1 : x < y
    · have h2 : ¬ y < x := by omega
      simp [h1, h2]
    · by_cases h2 : y < x
      · simp [h1, h2]
      · simp [h1, h2, cmp_anti l m]
theorem cmp_trans : ∀ {l m k : List Nat}, cmp l m < 0 → cmp m k < 0 → cmp l k < 0
  | [], [], _, h, _ => by simp [cmp] at h
  | [], _ :: _, [], _, h => by simp [cmp] at h
  | [], _ :: _, _ :: _, _, _ => by simp [cmp]
  | _ :: _, [], _, h, _ => by simp [cmp] at h
  | _ :: _, _ :: _, [], _, h => by simp [cmp] at h
  | x :: l, y :: m, z :: k, h1, h2 => by
    unfold cmp at h1 h2 ⊢
    by_cases a1 : x < y
    · by_cases b1 : y < z
      · simp [show x < z by omega]
      · by_cases b2 : z < y
        · simp [b1, b2] at h2
        · simp [show x < z by omega]
    · by_cases a2 : y < x
      · simp [a1, a2] at h1
      · by_cases b1 : y < z
        · simp [show x < z by omega]
        · by_cases b2 : z < y
          · simp [b1, b2] at h2
          · simp only [a1, a2, b1, b2, if_false] at h1 h2
            simp only [show ¬ x < z by omega, show ¬ z < x by omega, if_false]
            exact cmp_trans h1 h2
theorem cmp_ntrans {l m k : List Nat} (h1 : ¬ cmp l m < 0) (h2 : ¬ cmp m k < 0) : ¬ cmp l k < 0 := by
  intro h
  have a1 := cmp_anti l m
  have a2 := cmp_anti m k
  have a3 := cmp_anti l k
  by_cases e1 : cmp l m = 0
  · rw [cmp_eq e1] at h; exact h2 h
  · by_cases e2 : cmp m k = 0
    · rw [← cmp_eq e2] at h; exact h1 h
    · have b1 : cmp m l < 0 := by omega
      have b2 : cmp k m < 0 := by omega
      have b3 := cmp_trans b2 b1
      omega
/-- A list put into a list in order, once. -/
def ins (d : List Nat) : List (List Nat) → List (List Nat)
  | [] => [d]
  | e :: l => if cmp d e < 0 then d :: e :: l else if cmp d e = 0 then e :: l else e :: ins d l
/-- The lists in order, each once. -/
def srt : List (List Nat) → List (List Nat)
  | [] => []
  | d :: l => ins d (srt l)
def Strict (l : List (List Nat)) : Prop := l.Pairwise fun x y => cmp x y < 0
theorem mem_ins {d x : List Nat} : ∀ {l : List (List Nat)}, x ∈ ins d l ↔ x = d ∨ x ∈ l
  | [] => by simp [ins]
  | e :: l => by
    unfold ins
    split
    · simp
    · split
      · rename_i h1 h2
        have := cmp_eq h2
        subst this
        simp
      · simp only [List.mem_cons, mem_ins (l := l)]
        constructor
        · rintro (h | h | h) <;> simp [h]
        · rintro (h | h | h) <;> simp [h]
theorem mem_srt {x : List Nat} : ∀ {l : List (List Nat)}, x ∈ srt l ↔ x ∈ l
  | [] => by simp [srt]
  | d :: l => by unfold srt; rw [mem_ins, mem_srt (l := l), List.mem_cons]
theorem strict_ins {d : List Nat} : ∀ {l : List (List Nat)}, Strict l → Strict (ins d l)
  | [], _ => by simp [ins, Strict]
  | e :: l, h => by
    have h1 := List.pairwise_cons.1 h
    unfold ins
    split
    · rename_i hlt
      refine List.pairwise_cons.2 ⟨fun y hy => ?_, h⟩
      rcases List.mem_cons.1 hy with rfl | hy
      · exact hlt
      · exact cmp_trans hlt (h1.1 y hy)
    · split
      · exact h
      · rename_i h2 h3
        refine List.pairwise_cons.2 ⟨fun y hy => ?_, strict_ins h1.2⟩
        rcases mem_ins.1 hy with rfl | hy
        · have := cmp_anti y e
          omega
        · exact h1.1 y hy
theorem strict_srt : ∀ l : List (List Nat), Strict (srt l)
  | [] => List.Pairwise.nil
  | d :: l => strict_ins (strict_srt l)
theorem strict_same : ∀ {l m : List (List Nat)}, Strict l → Strict m → (∀ x, x ∈ l ↔ x ∈ m) → l = m
  | [], [], _, _, _ => rfl
  | [], y :: m, _, _, h => absurd ((h y).2 List.mem_cons_self) (by simp)
  | x :: l, [], _, _, h => absurd ((h x).1 List.mem_cons_self) (by simp)
  | x :: l, y :: m, h1, h2, h => by
    have a := List.pairwise_cons.1 h1
    have b := List.pairwise_cons.1 h2
    have e : x = y := by
      rcases List.mem_cons.1 ((h x).1 List.mem_cons_self) with e | hx
      · exact e
      · rcases List.mem_cons.1 ((h y).2 List.mem_cons_self) with e | hy
        · exact e.symm
        · have := cmp_trans (b.1 x hx) (a.1 y hy)
          rw [cmp_self] at this
          omega
    subst e
    congr 1
    refine strict_same a.2 b.2 fun z => ?_
    constructor
    · intro hz
      rcases List.mem_cons.1 ((h z).1 (List.mem_cons_of_mem _ hz)) with e | hz'
      · subst e
        have := a.1 z hz
        rw [cmp_self] at this
        omega
      · exact hz'
    · intro hz
      rcases List.mem_cons.1 ((h z).2 (List.mem_cons_of_mem _ hz)) with e | hz'
      · subst e
        have := b.1 z hz
        rw [cmp_self] at this
        omega
      · exact hz'
/-- How many of the lists, each counted once, are less than one. -/
def rk (ds : List (List Nat)) (d : List Nat) : Nat := (srt ds).countP fun e => decide (cmp e d < 0)
/-- The numbers of the lists. -/
def cols (ds : List (List Nat)) : List Nat := ds.map (rk ds)
theorem cols_len (ds : List (List Nat)) : (cols ds).length = ds.length := List.length_map ..
/-- What an element is at first. -/
def first (a : Gs.St) (x : Nat) : List Nat := [(if a.s x then 2 else 0) + (if a.r x x then 1 else 0)]
/-- In which way an element is related to another one. -/
def way (a : Gs.St) (x y : Nat) : Nat := (if a.r y x then 1 else 0) + (if a.r x y then 2 else 0)
/-- The colours of those that are related to an element in a way, of the first n. -/
def ways (a : Gs.St) (c : List Nat) (x k : Nat) (n : Nat) : List Nat := ((List.range n).filter fun y => decide (y ≠ x) && decide (way a x y = k)).map fun y => c.getD y 0
def sortL (l : List Nat) : List Nat := l.mergeSort fun x y => decide (x ≤ y)
/-- An element by the colours of all. -/
def descr (a : Gs.St) (c : List Nat) (x : Nat) : List Nat :=
  [c.getD x 0] ++ ((ways a c x 0 a.n).length :: sortL (ways a c x 0 a.n)) ++ ((ways a c x 1 a.n).length :: sortL (ways a c x 1 a.n)) ++ ((ways a c x 2 a.n).length :: sortL (ways a c x 2 a.n)) ++ ((ways a c x 3 a.n).length :: sortL (ways a c x 3 a.n))
/-- What the elements of some structures are at first. -/
def firsts : List Gs.St → List (List Nat)
  | [] => []
  | a :: l => (List.range a.n).map (first a) ++ firsts l
/-- The elements of some structures by the colours of all, one behind the other. -/
def descrs : List Gs.St → List Nat → List (List Nat)
  | [], _ => []
  | a :: l, c => (List.range a.n).map (descr a (c.take a.n)) ++ descrs l (c.drop a.n)
/-- The colours after some rounds. -/
def after (l : List Gs.St) : Nat → List Nat
  | 0 => cols (firsts l)
  | r + 1 => cols (descrs l (after l r))
def many : List Gs.St → Nat
  | [] => 0
  | a :: l => a.n + many l
theorem firsts_len : ∀ l : List Gs.St, (firsts l).length = many l
  | [] => rfl
  | a :: l => by simp [firsts, many, firsts_len l]
theorem descrs_len : ∀ (l : List Gs.St) (c : List Nat), (descrs l c).length = many l
  | [], _ => rfl
  | a :: l, c => by simp [descrs, many, descrs_len l]
theorem after_len (l : List Gs.St) : ∀ r, (after l r).length = many l
  | 0 => by rw [after, cols_len, firsts_len]
  | r + 1 => by rw [after, cols_len, descrs_len]
end Col
end Go.Proofs.YtfhogenjpepfnaaGreatDoor
