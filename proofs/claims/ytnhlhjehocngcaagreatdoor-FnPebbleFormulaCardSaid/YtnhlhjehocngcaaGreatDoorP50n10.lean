/- Contracts of the program's functions and what they compute: part 10. Conditions: those that each theorem states. -/
import Derived.Test.YtnhlhjehocngcaaGreatDoorP50n8
import Derived.Test.YtnhlhjehocngcaaGreatDoorP50n9
import Derived.Test.YtnhlhjehocngcaaGreatDoorP50n2
import Derived.Test.YtnhlhjehocngcaaGreatDoorShelf
import Derived.StillTailTactics
import Derived.IntWalk
namespace Go.Proofs.YtnhlhjehocngcaaGreatDoor
open Go.RowKit
set_option linter.unusedVariables false
set_option maxRecDepth 100000
/-- The first of some. -/
def fsO {α : Type} (g : Nat → Option α) : Nat → Option α
  | 0 => none
  | k + 1 => match fsO g k with
    | some s => some s
    | none => g k
theorem fsO_succ_none {α : Type} {g : Nat → Option α} {k : Nat} (h : fsO g k = none) : fsO g (k + 1) = g k := by
  unfold fsO
  rw [h]
theorem fsO_no {α : Type} {g : Nat → Option α} {k : Nat} (h : fsO g k = none) (hg : g k = none) : fsO g (k + 1) = none := by rw [fsO_succ_none h, hg]
theorem fsO_yes {α : Type} {g : Nat → Option α} {k : Nat} {s : α} (h : fsO g k = none) (hg : g k = some s) : ∀ {m : Nat}, k < m → fsO g m = some s
  | 0, hm => by omega
  | m + 1, hm => by
    by_cases e : k = m
    · subst e
      rw [fsO_succ_none h, hg]
    · have := fsO_yes h hg (m := m) (by omega)
      unfold fsO
      rw [this]
theorem fsO_none_iff {α : Type} {g : Nat → Option α} : ∀ {k : Nat}, fsO g k = none ↔ ∀ j, j < k → g j = none
  | 0 => by simp [fsO]
  | k + 1 => by
    constructor
    · intro h
      have h1 : fsO g k = none := by
        cases hc : fsO g k with
        | none => rfl
        | some s => unfold fsO at h; rw [hc] at h; cases h
      intro j hj
      by_cases e : j = k
      · rw [e, ← fsO_succ_none h1]; exact h
      · exact fsO_none_iff.1 h1 j (by omega)
    · intro h
      exact fsO_no (fsO_none_iff.2 fun j hj => h j (by omega)) (h k (by omega))
theorem fsO_some {α : Type} {g : Nat → Option α} {s : α} : ∀ {k : Nat}, fsO g k = some s → ∃ j, j < k ∧ g j = some s ∧ fsO g j = none
  | 0, h => by cases h
  | k + 1, h => by
    cases hc : fsO g k with
    | none =>
      rw [fsO_succ_none hc] at h
      exact ⟨k, by omega, h, hc⟩
    | some u =>
      have h2 : fsO g (k + 1) = some u := by unfold fsO; rw [hc]
      rw [h2] at h
      injection h with h
      subst h
      obtain ⟨j, hj, h3⟩ := fsO_some hc
      exact ⟨j, by omega, h3⟩
/-- A variable's name; a fact with its sign. -/
def vnB (i : Nat) : ByteArray := ⟨#[UInt8.ofNat (97 + i)]⟩
def sgB (s : ByteArray) (is : Bool) : ByteArray := if is then s else ⟨#[33]⟩ ++ s
def elB (L : List Int) (i : Nat) : Nat := (L.getD i 0).toNat
def fa3 (a b : Gs.St) (L M : List Int) (i k : Nat) : Option ByteArray :=
  if L.getD k 0 < 0 then none
  else if decide (L.getD k 0 = L.getD i 0) != decide (M.getD k 0 = M.getD i 0) then some (sgB (⟨#[61]⟩ ++ vnB k ++ vnB i) (decide (L.getD k 0 = L.getD i 0)))
  else if a.r (elB L k) (elB L i) != b.r (elB M k) (elB M i) then some (sgB (⟨#[69]⟩ ++ vnB k ++ vnB i) (a.r (elB L k) (elB L i)))
  else if a.r (elB L i) (elB L k) != b.r (elB M i) (elB M k) then some (sgB (⟨#[69]⟩ ++ vnB i ++ vnB k) (a.r (elB L i) (elB L k)))
  else none
def fa1 (a b : Gs.St) (L M : List Int) (i : Nat) : Option ByteArray :=
  if L.getD i 0 < 0 then none
  else if a.s (elB L i) != b.s (elB M i) then some (sgB (⟨#[80]⟩ ++ vnB i) (a.s (elB L i)))
  else fsO (fa3 a b L M i) (i + 1)
/-- The first atom that is not as true of pebbles as of others. -/
def firstO (a b : Gs.St) (L M : List Int) : Option ByteArray := fsO (fa1 a b L M) L.length
def firstA (a b : Gs.St) (L M : List Int) : ByteArray := (firstO a b L M).getD ByteArray.empty
/-- Texts, each once. -/
def hasB (out : List ByteArray) (f : ByteArray) : Bool := out.any fun g => decide (g = f)
def addU (out : List ByteArray) (f : ByteArray) : List ByteArray := if hasB out f = true then out else out ++ [f]
def uniqL (L : List ByteArray) : List ByteArray := L.foldl addU []
theorem uniqL_snoc (L : List ByteArray) (f : ByteArray) : uniqL (L ++ [f]) = addU (uniqL L) f := by
  unfold uniqL
  rw [List.foldl_append]
  rfl
theorem uniqL_facts (L : List ByteArray) : (∀ f ∈ uniqL L, f ∈ L) ∧ (uniqL L).length ≤ L.length ∧ (L ≠ [] → uniqL L ≠ []) := by
  have key : ∀ (L acc : List ByteArray), (∀ f ∈ L.foldl addU acc, f ∈ acc ∨ f ∈ L) ∧ (L.foldl addU acc).length ≤ acc.length + L.length ∧ (acc ≠ [] → L.foldl addU acc ≠ []) := by
    intro L
    induction L with
    | nil => intro acc; exact ⟨fun f h => .inl h, by simp, fun h => h⟩
    | cons x L ih =>
      intro acc
      obtain ⟨h1, h2, h3⟩ := ih (addU acc x)
      have hm : ∀ f ∈ addU acc x, f ∈ acc ∨ f = x := fun f hf => by
        unfold addU at hf
        split at hf
        · exact .inl hf
        · rcases List.mem_append.1 hf with h | h
          · exact .inl h
          · exact .inr (List.mem_singleton.1 h)
      have hl : (addU acc x).length ≤ acc.length + 1 := by unfold addU; split <;> simp
      refine ⟨fun f hf => ?_, by simp only [List.foldl_cons, List.length_cons]; omega, fun h => ?_⟩
      · rcases h1 f hf with h | h
        · rcases hm f h with h | h
          · exact .inl h
          · exact .inr (by simp [h])
        · exact .inr (by simp [h])
      · rw [List.foldl_cons]
        apply h3
        unfold addU
        split
        · exact h
        · simp
  obtain ⟨h1, h2, _⟩ := key L []
  refine ⟨fun f hf => ?_, by simpa [uniqL] using h2, fun h => ?_⟩
  · rcases h1 f hf with h | h
    · cases h
    · exact h
  · cases L with
    | nil => exact absurd rfl h
    | cons x L =>
      unfold uniqL
      rw [List.foldl_cons]
      exact (key L (addU [] x)).2.2 (by simp [addU, hasB])
def quB (head : ByteArray) (i : Nat) (parts : List ByteArray) : ByteArray := head ++ vnB i ++ joinP ⟨#[38]⟩ (uniqL parts)
/-- Whether a choice has no reply. -/
def beatA (a b : Gs.St) (t : Nat) (L M : List Int) (i x : Nat) : Bool := (List.range b.n).all fun y => !pwB a b a.n b.n t (L.set i (x : Int)) (M.set i (y : Int))
/-- The formula's text. -/
def pebF : Nat → Gs.St → Gs.St → List Int → List Int → ByteArray
  | 0, a, b, L, M => firstA a b L M
  | t + 1, a, b, L, M =>
    if Gs.same a (layN L) b (layN M) = false then firstA a b L M
    else if pwB a b a.n b.n t L M = false then pebF t a b L M
    else (fsO (fun i =>
      match fsO (fun x => if beatA a b t L M i x then some (quB ⟨#[83]⟩ i ((List.range b.n).map fun y : Nat => pebF t a b (L.set i (x : Int)) (M.set i (y : Int)))) else none) a.n with
      | some s => some s
      | none => fsO (fun x => if beatA b a t M L i x then some (quB ⟨#[33, 83]⟩ i ((List.range a.n).map fun y : Nat => pebF t b a (M.set i (x : Int)) (L.set i (y : Int)))) else none) b.n) L.length).getD ByteArray.empty
def mvO (t : Nat) (a b : Gs.St) (L M : List Int) (i x : Nat) : Option ByteArray := if beatA a b t L M i x then some (quB ⟨#[83]⟩ i ((List.range b.n).map fun y : Nat => pebF t a b (L.set i (x : Int)) (M.set i (y : Int)))) else none
def mvN (t : Nat) (a b : Gs.St) (L M : List Int) (i x : Nat) : Option ByteArray := if beatA a b t L M i x then some (quB ⟨#[33, 83]⟩ i ((List.range b.n).map fun y : Nat => pebF t a b (L.set i (x : Int)) (M.set i (y : Int)))) else none
def plO (t : Nat) (a b : Gs.St) (L M : List Int) (i : Nat) : Option ByteArray :=
  match fsO (mvO t a b L M i) a.n with
  | some s => some s
  | none => fsO (mvN t b a M L i) b.n
theorem pebF_succ (t : Nat) (a b : Gs.St) (L M : List Int) : pebF (t + 1) a b L M = if Gs.same a (layN L) b (layN M) = false then firstA a b L M else if pwB a b a.n b.n t L M = false then pebF t a b L M else (fsO (plO t a b L M) L.length).getD ByteArray.empty := rfl
/-- The game is the same from the other side. -/
theorem layN_len {L M : List Int} : ∀ (h : L.length = M.length) (hs : ∀ j : Nat, (L.getD j 0 < 0) ↔ (M.getD j 0 < 0)), (layN M).length = (layN L).length := by
  induction L generalizing M with
  | nil => intro h _; rw [List.length_eq_zero_iff.1 h.symm]
  | cons x L ih =>
    intro h hs
    cases M with
    | nil => simp at h
    | cons y M =>
      have h0 : x < 0 ↔ y < 0 := by simpa using hs 0
      have h1 := ih (M := M) (by simpa using h) (fun j => by simpa using hs (j + 1))
      rw [layN_cons, layN_cons]
      by_cases hx : 0 ≤ x
      · rw [if_pos hx, if_pos (show 0 ≤ y by omega), List.length_cons, List.length_cons, h1]
      · rw [if_neg hx, if_neg (show ¬ 0 ≤ y by omega), h1]
theorem Rdy.symm {n m : Nat} {L M : List Int} (h : Rdy n m L M) : Rdy m n M L := ⟨h.len.symm, h.lb, h.la, fun j => (h.sg j).symm⟩
theorem same_symm {a b : Gs.St} {n m : Nat} {L M : List Int} (h : Rdy n m L M) : Gs.same b (layN M) a (layN L) = Gs.same a (layN L) b (layN M) := by
  have hl := layN_len h.len h.sg
  rw [Bool.eq_iff_iff, Gs.same_iff (layN L).length _ _ hl rfl, Gs.same_iff (layN L).length _ _ rfl hl]
  exact eq_comm
theorem pwB_symm {a b : Gs.St} {n m : Nat} : ∀ (t : Nat) {L M : List Int}, Rdy n m L M → pwB b a m n t M L = pwB a b n m t L M
  | 0, L, M, h => same_symm h
  | t + 1, L, M, h => by
    unfold pwB
    rw [same_symm h, Bool.eq_iff_iff, Bool.and_eq_true, Bool.and_eq_true, List.all_eq_true, List.all_eq_true, h.len]
    have e : ∀ i, (ansF m n (fun x y => pwB b a m n t (M.set i (x : Int)) (L.set i (y : Int))) = true ↔ ansF n m (fun x y => pwB a b n m t (L.set i (x : Int)) (M.set i (y : Int))) = true) := by
      intro i
      have h2 : ∀ x y : Nat, x < n → y < m → pwB b a m n t (M.set i (y : Int)) (L.set i (x : Int)) = pwB a b n m t (L.set i (x : Int)) (M.set i (y : Int)) := fun x y hx hy => pwB_symm t (h.put i hx hy)
      rw [ansF_iff, ansF_iff]
      constructor
      · rintro ⟨h3, h4⟩
        refine ⟨fun x hx => ?_, fun y hy => ?_⟩
        · obtain ⟨y, hy, e⟩ := h4 x hx; exact ⟨y, hy, by rw [← h2 x y hx hy]; exact e⟩
        · obtain ⟨x, hx, e⟩ := h3 y hy; exact ⟨x, hx, by rw [← h2 x y hx hy]; exact e⟩
      · rintro ⟨h3, h4⟩
        refine ⟨fun y hy => ?_, fun x hx => ?_⟩
        · obtain ⟨x, hx, e⟩ := h4 y hy; exact ⟨x, hx, by rw [h2 x y hx hy]; exact e⟩
        · obtain ⟨y, hy, e⟩ := h3 x hx; exact ⟨y, hy, by rw [h2 x y hx hy]; exact e⟩
    constructor
    · rintro ⟨h1, h2⟩; exact ⟨h1, fun i hi => (e i).1 (h2 i hi)⟩
    · rintro ⟨h1, h2⟩; exact ⟨h1, fun i hi => (e i).2 (h2 i hi)⟩
/-- Where the first player wins there is a choice without a reply. -/
theorem plO_some {t : Nat} {a b : Gs.St} {L M : List Int} (h : Rdy a.n b.n L M) (hw : pwB a b a.n b.n (t + 1) L M = false) (hf : Gs.same a (layN L) b (layN M) = true) : ∃ s, fsO (plO t a b L M) L.length = some s := by
  cases hc : fsO (plO t a b L M) L.length with
  | some s => exact ⟨s, rfl⟩
  | none =>
    exfalso
    rw [fsO_none_iff] at hc
    have hw2 : pwB a b a.n b.n (t + 1) L M = true := by
      rw [pwB, hf, Bool.true_and, List.all_eq_true]
      intro i hi
      have hp := hc i (List.mem_range.1 hi)
      unfold plO at hp
      cases h1 : fsO (mvO t a b L M i) a.n with
      | some s => rw [h1] at hp; cases hp
      | none =>
        rw [h1] at hp
        have hp2 : fsO (mvN t b a M L i) b.n = none := hp
        rw [fsO_none_iff] at h1 hp2
        rw [ansF_iff]
        refine ⟨fun x hx => ?_, fun y hy => ?_⟩
        · have h2 := h1 x hx
          unfold mvO at h2
          have h3 : beatA a b t L M i x = false := by
            cases h4 : beatA a b t L M i x
            · rfl
            · rw [h4, if_pos rfl] at h2; cases h2
          unfold beatA at h3
          rw [List.all_eq_false] at h3
          obtain ⟨y, hy, h5⟩ := h3
          exact ⟨y, List.mem_range.1 hy, by simpa using h5⟩
        · have h2 := hp2 y hy
          unfold mvN at h2
          have h3 : beatA b a t M L i y = false := by
            cases h4 : beatA b a t M L i y
            · rfl
            · rw [h4, if_pos rfl] at h2; cases h2
          unfold beatA at h3
          rw [List.all_eq_false] at h3
          obtain ⟨x, hx, h5⟩ := h3
          have hx := List.mem_range.1 hx
          refine ⟨x, hx, ?_⟩
          rw [← pwB_symm t (h.put i hx hy)]
          simpa using h5
    rw [hw2] at hw
    cases hw
theorem fa3_size {a b : Gs.St} {L M : List Int} {i k : Nat} {s : ByteArray} (h : fa3 a b L M i k = some s) : s.size ≤ 4 ∧ 1 ≤ s.size := by
  have h3 : ∀ (u : UInt8) (i k : Nat) (is : Bool), (sgB (⟨#[u]⟩ ++ vnB i ++ vnB k) is).size ≤ 4 ∧ 1 ≤ (sgB (⟨#[u]⟩ ++ vnB i ++ vnB k) is).size := by
    intro u i k is
    have e : (⟨#[u]⟩ ++ vnB i ++ vnB k : ByteArray).size = 3 := by rw [ByteArray.size_append, ByteArray.size_append]; rfl
    unfold sgB
    split
    · rw [e]; omega
    · rw [ByteArray.size_append, e]
      show 1 + 3 ≤ 4 ∧ 1 ≤ 1 + 3
      omega
  unfold fa3 at h
  split at h
  · cases h
  · split at h
    · injection h with h; subst h; exact h3 _ _ _ _
    · split at h
      · injection h with h; subst h; exact h3 _ _ _ _
      · split at h
        · injection h with h; subst h; exact h3 _ _ _ _
        · cases h
theorem fa1_size {a b : Gs.St} {L M : List Int} {i : Nat} {s : ByteArray} (h : fa1 a b L M i = some s) : s.size ≤ 4 ∧ 1 ≤ s.size := by
  unfold fa1 at h
  split at h
  · cases h
  · split at h
    · injection h with h
      subst h
      have e : (⟨#[80]⟩ ++ vnB i : ByteArray).size = 2 := by rw [ByteArray.size_append]; rfl
      unfold sgB
      split
      · rw [e]; omega
      · rw [ByteArray.size_append, e]
        show 1 + 2 ≤ 4 ∧ 1 ≤ 1 + 2
        omega
    · obtain ⟨j, _, h2, _⟩ := fsO_some h
      exact fa3_size h2
theorem firstA_size (a b : Gs.St) (L M : List Int) : (firstA a b L M).size ≤ 4 := by
  unfold firstA firstO
  cases h : fsO (fa1 a b L M) L.length with
  | none => exact Nat.zero_le _
  | some s =>
    obtain ⟨j, _, h2, _⟩ := fsO_some h
    exact (fa1_size h2).1
def szF : Nat → Nat
  | 0 => 4
  | t + 1 => 3 + 8 * (szF t + 1)
theorem sumL_le {L : List ByteArray} {b : Nat} (h : ∀ f ∈ L, f.size ≤ b) : sumL L ≤ L.length * b := by
  unfold sumL
  induction L with
  | nil => simp
  | cons x L ih =>
    have h1 := ih (fun f hf => h f (by simp [hf]))
    have h2 := h x (by simp)
    simp only [List.map_cons, List.sum_cons, List.length_cons]
    rw [Nat.add_mul]
    omega
theorem joinP_size (op : ByteArray) (L : List ByteArray) (hop : op.size = 1) (hn : L ≠ []) : (joinP op L).size ≤ L.length + sumL L := by
  have h0 : 0 < L.length := List.length_pos_iff.2 hn
  unfold joinP
  rw [if_neg (by omega), ByteArray.size_append, joinL_size, hop, List.length_take, Nat.one_mul]
  have h1 := sumL_take L (L.length - 1) (by omega)
  rw [show L.length - 1 + 1 = L.length by omega, List.take_length] at h1
  rw [List.getD_eq_getElem?_getD, List.getElem?_eq_getElem (by omega)]
  show _ + (L[L.length - 1]).size ≤ _
  omega
theorem quB_size {head : ByteArray} {i c : Nat} {parts : List ByteArray} (hh : head.size ≤ 2) (hp : parts.length ≤ 8) (hn : parts ≠ []) (hs : ∀ f ∈ parts, f.size ≤ c) : (quB head i parts).size ≤ 3 + 8 * (c + 1) := by
  obtain ⟨u1, u2, u3⟩ := uniqL_facts parts
  have h1 := sumL_le (L := uniqL parts) (b := c) (fun f hf => hs f (u1 f hf))
  have h2 : (uniqL parts).length * c ≤ 8 * c := Nat.mul_le_mul_right _ (by omega)
  have h3 : (joinP ⟨#[38]⟩ (uniqL parts)).size ≤ (uniqL parts).length + sumL (uniqL parts) := joinP_size _ _ rfl (u3 hn)
  unfold quB
  rw [ByteArray.size_append, ByteArray.size_append]
  have : (vnB i).size = 1 := rfl
  omega
theorem szF_mono (t : Nat) : szF t ≤ szF (t + 1) := by
  show szF t ≤ 3 + 8 * (szF t + 1)
  omega
theorem szF_pos : ∀ t, 4 ≤ szF t
  | 0 => Nat.le_refl _
  | t + 1 => Nat.le_trans (szF_pos t) (szF_mono t)
theorem pebF_size : ∀ (t : Nat) (a b : Gs.St) (L M : List Int), 1 ≤ a.n → a.n ≤ 8 → 1 ≤ b.n → b.n ≤ 8 → (pebF t a b L M).size ≤ szF t
  | 0, a, b, L, M, _, _, _, _ => firstA_size a b L M
  | t + 1, a, b, L, M, h1, h2, h3, h4 => by
    rw [pebF_succ]
    have hp := szF_pos (t + 1)
    split
    · exact Nat.le_trans (firstA_size a b L M) hp
    · split
      · exact Nat.le_trans (pebF_size t a b L M h1 h2 h3 h4) (szF_mono t)
      · cases hc : fsO (plO t a b L M) L.length with
        | none => exact Nat.zero_le _
        | some s =>
          obtain ⟨i, _, hi, _⟩ := fsO_some hc
          show s.size ≤ 3 + 8 * (szF t + 1)
          unfold plO at hi
          cases hm : fsO (mvO t a b L M i) a.n with
          | some u =>
            rw [hm] at hi
            injection hi with hi
            subst hi
            obtain ⟨x, _, hx, _⟩ := fsO_some hm
            unfold mvO at hx
            split at hx
            · injection hx with hx
              subst hx
              refine quB_size (by decide) (by simp; omega) (by simp; omega) (fun f hf => ?_)
              obtain ⟨y, _, rfl⟩ := List.mem_map.1 hf
              exact pebF_size t a b _ _ h1 h2 h3 h4
            · cases hx
          | none =>
            rw [hm] at hi
            obtain ⟨x, _, hx, _⟩ := fsO_some hi
            unfold mvN at hx
            split at hx
            · injection hx with hx
              subst hx
              refine quB_size (by decide) (by simp; omega) (by simp; omega) (fun f hf => ?_)
              obtain ⟨y, _, rfl⟩ := List.mem_map.1 hf
              exact pebF_size t b a _ _ h3 h4 h1 h2
            · cases hx
end Go.Proofs.YtnhlhjehocngcaaGreatDoor

namespace Go.Proofs.YtnhlhjehocngcaaGreatDoor
open Go.RowKit
theorem dropWhile_nil (p : UInt8 → Bool) : ∀ l : List UInt8, l.dropWhile p = [] ↔ l.all p = true
  | [] => by simp
  | x :: l => by
    have ih := dropWhile_nil p l
    cases h : p x
    · simp [List.dropWhile, h]
    · simp only [List.dropWhile, h, List.all_cons, Bool.true_and]; exact ih
theorem dropWhile_head (p : UInt8 → Bool) : ∀ l : List UInt8, ∀ x m, l.dropWhile p = x :: m → p x = false
  | [], _, _, h => by simp at h
  | y :: l, x, m, h => by
    cases hy : p y
    · simp only [List.dropWhile, hy, List.cons.injEq] at h
      rw [← h.1]; exact hy
    · simp only [List.dropWhile, hy] at h
      exact dropWhile_head p l x m h
theorem trim_nil (p : UInt8 → Bool) (l : List UInt8) : ((l.reverse.dropWhile p).reverse.dropWhile p = []) ↔ l.all p = true := by
  rw [dropWhile_nil, List.all_reverse]
  cases h : l.reverse.dropWhile p with
  | nil =>
    have := (dropWhile_nil p _).1 h
    rw [List.all_reverse] at this
    simp [this]
  | cons x m =>
    have hx := dropWhile_head p _ x m h
    constructor
    · intro ha
      simp [hx] at ha
    · intro ha
      rw [← List.all_reverse] at ha
      rw [(dropWhile_nil p _).2 ha] at h
      cases h
end Go.Proofs.YtnhlhjehocngcaaGreatDoor

namespace Go.Proofs.YtnhlhjehocngcaaGreatDoor
open Go.RowKit
set_option linter.unusedVariables false
def is01 (b : UInt8) : Bool := b == 48 || b == 49
/-- Whether a text has n bits. -/
def bitsB (s : ByteArray) (n : Int) : Bool := decide ((s.size : Int) = n) && s.data.toList.all is01
/-- Whether a structure is valid. -/
def validB (n : Int) (S R : ByteArray) : Bool := inB n 1 8 && (bitsB S n && bitsB R (n * n))
theorem trimS_01 (l : List UInt8) : /- 144 -/ (Lib.trimS l [48, 49]).isEmpty = l.all is01 := by
  have h := trim_nil ([48, 49].contains ·) l
  have e : l.all ([48, 49].contains ·) = l.all is01 := by
    congr 1
    funext b
    rw [Bool.eq_iff_iff]
    simp [is01]
  rw [e] at h
  rw [Bool.eq_iff_iff, List.isEmpty_iff]
  exact h
theorem trim_01 (s : ByteArray) (w : World) (hs : s.size ≤ 9223372036854775807) :
    Calls Tryz.prog 144 #[.string s, .string ⟨#[48, 49]⟩] w fun e w' => (∃ t : ByteArray, e = .returned (.string t) ∧ t.toList.isEmpty = s.data.toList.all is01) ∧ Below w.heap.size w w' := by
  have hcon := Any.strings_Trim_laid Tryz.lays160 (by kernel_rfl) s ⟨#[48, 49]⟩ w hs (by decide) (ascii_of_all (by decide))
  refine hcon.mono fun e w' ⟨h1, h2⟩ => ⟨⟨_, h1, ?_⟩, h2⟩
  rw [Lib.toList_data]
  exact trimS_01 _
theorem areBits_any (s : ByteArray) (n : Int) (w : World) (hs : s.size ≤ 9223372036854775807) :
    Calls Tryz.prog 92 #[.string s, .int .i64 n] w fun e w' => e = .returned (.bool (bitsB s n)) ∧ Below w.heap.size w w' := by
  by_cases h : (s.size : Int) = n
  · subst h
    have HW : Hid (s.data.toList.all is01 = bitsB s (s.size : Int)) := by simp [Hid, bitsB]
    go_enter Tryz.func92, Tryz.ntmps92
    go_wp2_with fail
    refine (trim_01 s _ hs).mono ?_
    rintro e w1 ⟨⟨t, rfl, ht⟩, hb⟩
    have HB := Lib.hid hb; clear hb
    generalize s.data.toList.all is01 = b at *
    go_wp2_with fail
    go_ret
    exact ⟨ret_bool HW.out, HB.out⟩
  · have e1 : ((s.size : Int) == n) = false := by simp; exact h
    have HW : Hid (bitsB s n = false) := by simp [Hid, bitsB, h]
    clear h
    go_enter Tryz.func92, Tryz.ntmps92
    go_wp2_with fail
    go_ret
    exact ⟨ret_bool HW.out.symm, Below.refl _ _⟩
theorem bits_take_succ (s : ByteArray) (k : Nat) (h : k < s.size) : (s.data.toList.take (k + 1)).all is01 = ((s.data.toList.take k).all is01 && is01 s[k]) := by
  rw [List.take_succ_eq_append_getElem (by simpa using h), List.all_append]
  simp
  rfl
theorem l1Bits_any (s : ByteArray) (n : Int) (w : World) (hs : s.size ≤ 9223372036854775807) :
    Calls Tryz.prog 158 #[.string s, .int .i64 n] w fun e w' => e = .returned (.bool (bitsB s n)) ∧ w = w' := by
  go_enter Tryz.func158, Tryz.ntmps158
  go_wp2_with fail
  go_loop [5] (fun i => ∃ k : Nat, k ≤ s.size ∧ i = .int .i64 k ∧ Hid ((s.data.toList.take k).all is01 = true)) (fun i => s.size - (intOf i).toNat)
  case atStart => exact ⟨0, by omega, rfl, rfl⟩
  case round =>
    obtain ⟨k, hk, rfl, HK⟩ := hrel
    by_cases hlt : k < s.size
    · have HS := Lib.hid (bits_take_succ s k hlt)
      obtain ⟨c, hc⟩ : ∃ c, s[k] = c := ⟨_, rfl⟩
      have HC := Lib.hid hc
      by_cases hx : c = 48
      · have e1 : ((c.toNat : Int) == 48) = true := by rw [hx]; rfl
        have e1' : ((c.toNat : Int) != 48) = false := by rw [hx]; rfl
        have HX := Lib.hid hx; clear hx
        go_wp2_with fail
        go_round
        case rel =>
          refine ⟨k + 1, by omega, by go_num, ?_⟩
          rw [HS.out, HK.out, HC.out, HX.out]; rfl
        case measure => simp [intOf]; omega
      · have hx' : c.toNat ≠ 48 := fun h => hx (UInt8.toNat_inj.1 h)
        have e1 : ((c.toNat : Int) == 48) = false := by simp; omega
        have e1' : ((c.toNat : Int) != 48) = true := by simp; omega
        by_cases hy : c = 49
        · have e2 : ((c.toNat : Int) == 49) = true := by rw [hy]; rfl
          have e2' : ((c.toNat : Int) != 49) = false := by rw [hy]; rfl
          have HY := Lib.hid hy; clear hx hy hx'
          go_wp2_with fail
          go_round
          case rel =>
            refine ⟨k + 1, by omega, by go_num, ?_⟩
            rw [HS.out, HK.out, HC.out, HY.out]; rfl
          case measure => simp [intOf]; omega
        · have hy' : c.toNat ≠ 49 := fun h => hy (UInt8.toNat_inj.1 h)
          have e2 : ((c.toNat : Int) == 49) = false := by simp; omega
          have e2' : ((c.toNat : Int) != 49) = true := by simp; omega
          have HR : Hid (bitsB s n = false) := by
            have h1 : is01 s[k] = false := by rw [HC.out]; simp [is01, hx, hy]
            have h2 : s.data.toList.all is01 = false := by
              rw [← Bool.not_eq_true, List.all_eq_true]
              intro h
              have := h s[k] (by
                show s.data[k] ∈ s.data.toList
                simp)
              rw [h1] at this; cases this
            simp [Hid, bitsB, h2]
          clear hx hy hx' hy'
          go_wp2_with fail
          go_ret
          exact ⟨ret_bool HR.out.symm, rfl⟩
    · have HR : Hid (bitsB s n = ((s.size : Int) == n)) := by
        have h := HK.out
        rw [List.take_of_length_le (by simp; omega)] at h
        simp [Hid, bitsB, h]
        rfl
      go_wp2_with fail
      go_ret
      exact ⟨ret_bool HR.out.symm, rfl⟩
theorem isStructure_any (n : Int) (S R : ByteArray) (w : World) (hS : S.size ≤ 9223372036854775807) (hR : R.size ≤ 9223372036854775807) :
    Calls Tryz.prog 45 #[strV n S R] w fun e w' => e = .returned (.bool (validB n S R)) ∧ Below w.heap.size w w' := by
  unfold strV
  by_cases h1 : 1 ≤ n
  · by_cases h8 : n ≤ 8
    · have HI := Lib.hid (inB_true h1 h8)
      have hw : IntKind.i64.wrap (n * n) = n * n := IntWalk.i64_in _ (by
        have a1 : n * n ≤ 8 * 8 := Int.mul_le_mul h8 h8 (by omega) (by omega)
        have a2 : 0 ≤ n * n := Int.mul_nonneg (by omega) (by omega)
        omega)
      cases h2 : bitsB S n
      · have HE := Lib.hid h2
        have HV : Hid (validB n S R = false) := by simp [Hid, validB, h2]
        clear h2
        go_enter Tryz.func45, Tryz.ntmps45
        go_wp2_with fail
        refine (areBits_any S n _ hS).mono ?_; rintro e w1 ⟨rfl, hb⟩
        have hb' : Below w.heap.size w w1 := ((Below.refl _ _).alloc (Nat.le_refl _) _).trans (hb.mono (by simp))
        have HB := Lib.hid hb'; clear hb'
        rw [HE.out]
        go_wp2_with fail
        go_ret
        exact ⟨ret_bool HV.out.symm, HB.out⟩
      · have HE := Lib.hid h2
        have HV : Hid (bitsB R (n * n) = validB n S R) := by simp [Hid, validB, h2, HI.out]
        clear h2
        go_enter Tryz.func45, Tryz.ntmps45
        go_wp2_with fail
        refine (areBits_any S n _ hS).mono ?_; rintro e w1 ⟨rfl, hb⟩
        have hR1 : SBlk w1 w.heap.size n S R := (SBlk.new w n S R).below hb (by simp)
        have hb' : Below w.heap.size w w1 := ((Below.refl _ _).alloc (Nat.le_refl _) _).trans (hb.mono (by simp))
        have HB := Lib.hid hb'; clear hb' hb
        obtain ⟨c0, c1, c2, f0, f1, f2, hs1⟩ := hR1.cells
        clear hR1
        rw [HE.out]
        go_wp2_with fail
        refine (areBits_any R (n * n) _ hR).mono ?_; rintro e w2 ⟨rfl, hb⟩
        have HB2 := Lib.hid (HB.out.trans (hb.mono HB.out.size)); clear hb
        generalize bitsB R (n * n) = b at *
        go_wp2_with fail
        go_ret
        exact ⟨ret_bool HV.out, HB2.out⟩
    · have HI := Lib.hid (inB_hi (lo := 1) h8)
      go_enter Tryz.func45, Tryz.ntmps45
      go_wp2_with fail
      go_ret
      exact ⟨ret_bool (by simp [validB, HI.out]), (Below.refl _ _).alloc (Nat.le_refl _) _⟩
  · have HI := Lib.hid (inB_lo (hi := 8) h1)
    go_enter Tryz.func45, Tryz.ntmps45
    go_wp2_with fail
    go_ret
    exact ⟨ret_bool (by simp [validB, HI.out]), (Below.refl _ _).alloc (Nat.le_refl _) _⟩
theorem specValid_any (n : Int) (S R : ByteArray) (w : World) (hS : S.size ≤ 9223372036854775807) (hR : R.size ≤ 9223372036854775807) :
    Calls Tryz.prog 124 #[strV n S R] w fun e w' => e = .returned (.bool (validB n S R)) ∧ Below w.heap.size w w' := by
  unfold strV
  cases h1 : inB n 1 8
  · have HI := Lib.hid h1
    have HV : Hid (validB n S R = false) := by simp [Hid, validB, h1]
    clear h1
    go_enter Tryz.func124, Tryz.ntmps124
    go_wp2_with fail
    refine (l1In_any _ _ _ _).mono ?_; rintro e w' ⟨rfl, rfl⟩
    rw [HI.out]
    go_wp2_with fail
    go_ret
    exact ⟨ret_bool HV.out.symm, (Below.refl _ _).alloc (Nat.le_refl _) _⟩
  · have HI := Lib.hid h1
    have hw : IntKind.i64.wrap (n * n) = n * n := IntWalk.i64_in _ (by
      obtain ⟨a1, a8⟩ := inB_iff.1 h1
      have a1 : n * n ≤ 8 * 8 := Int.mul_le_mul a8 a8 (by omega) (by omega)
      have a2 : 0 ≤ n * n := Int.mul_nonneg (by omega) (by omega)
      omega)
    cases h2 : bitsB S n
    · have HE := Lib.hid h2
      have HV : Hid (validB n S R = false) := by simp [Hid, validB, h2]
      clear h1 h2
      go_enter Tryz.func124, Tryz.ntmps124
      go_wp2_with fail
      refine (l1In_any _ _ _ _).mono ?_; rintro e w' ⟨rfl, rfl⟩
      rw [HI.out]
      go_wp2_with fail
      refine (l1Bits_any S n _ hS).mono ?_; rintro e w' ⟨rfl, rfl⟩
      rw [HE.out]
      go_wp2_with fail
      go_ret
      exact ⟨ret_bool HV.out.symm, (Below.refl _ _).alloc (Nat.le_refl _) _⟩
    · have HE := Lib.hid h2
      have HV : Hid (bitsB R (n * n) = validB n S R) := by simp [Hid, validB, h2, h1]
      clear h1 h2
      go_enter Tryz.func124, Tryz.ntmps124
      go_wp2_with fail
      refine (l1In_any _ _ _ _).mono ?_; rintro e w' ⟨rfl, rfl⟩
      rw [HI.out]
      go_wp2_with fail
      refine (l1Bits_any S n _ hS).mono ?_; rintro e w' ⟨rfl, rfl⟩
      rw [HE.out]
      go_wp2_with fail
      refine (l1Bits_any R (n * n) _ hR).mono ?_; rintro e w' ⟨rfl, rfl⟩
      generalize bitsB R (n * n) = b at *
      go_wp2_with fail
      go_ret
      exact ⟨ret_bool HV.out, (Below.refl _ _).alloc (Nat.le_refl _) _⟩
end Go.Proofs.YtnhlhjehocngcaaGreatDoor

namespace Go.Proofs.YtnhlhjehocngcaaGreatDoor
open Go.RowKit
set_option linter.unusedVariables false
theorem valid_is {n : Nat} {S R : ByteArray} (h : validB n S R = true) : 1 ≤ n ∧ n ≤ 8 ∧ S.size = n ∧ R.size = n * n ∧ bitsB S n = true ∧ bitsB R (n * n : Nat) = true := by
  simp only [validB, Bool.and_eq_true, inB_iff] at h
  obtain ⟨⟨h1, h8⟩, h2, h3⟩ := h
  have h3' : bitsB R ((n * n : Nat) : Int) = true := by rw [Int.natCast_mul]; exact h3
  refine ⟨by omega, by omega, ?_, ?_, h2, h3'⟩
  · simp only [bitsB, Bool.and_eq_true, decide_eq_true_eq] at h2
    omega
  · simp only [bitsB, Bool.and_eq_true, decide_eq_true_eq] at h3'
    omega
end Go.Proofs.YtnhlhjehocngcaaGreatDoor
