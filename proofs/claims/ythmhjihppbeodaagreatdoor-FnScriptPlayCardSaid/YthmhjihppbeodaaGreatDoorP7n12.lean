/- Contracts of the program's functions and what they compute: part 12. Conditions: those that each theorem states. -/
import Derived.Test.YthmhjihppbeodaaGreatDoorP7n11
import Derived.Test.YthmhjihppbeodaaGreatDoorShelf4
namespace Go.Proofs.YthmhjihppbeodaaGreatDoor
open Go.RowKit
set_option linter.unusedVariables false
set_option maxRecDepth 100000
theorem fieldsGo_take : ∀ (p cur l : List UInt8), (∀ b ∈ p, Lib.isSp b = false) → Lib.fieldsGo cur (p ++ l) = Lib.fieldsGo (cur ++ p) l
  | [], cur, l, _ => by simp
  | b :: p, cur, l, h => by
    have hb := h b (by simp)
    show Lib.fieldsGo cur (b :: (p ++ l)) = _
    rw [Lib.fieldsGo, hb]
    simp only [Bool.false_eq_true, if_false]
    rw [fieldsGo_take p _ l (fun c hc => h c (by simp [hc]))]
    simp
theorem fields_join (z : List UInt8) (hz : z ≠ [] ∧ ∀ b ∈ z, Lib.isSp b = false) : ∀ ls : List (List UInt8), (∀ p ∈ ls, p ≠ [] ∧ ∀ b ∈ p, Lib.isSp b = false) → Lib.fieldsGo [] (joinPc 32 z ls) = ls ++ [z]
  | [], _ => by
    have h := fieldsGo_take z [] [] hz.2
    rw [List.append_nil] at h
    show Lib.fieldsGo [] z = [z]
    rw [h]
    cases z with
    | nil => exact absurd rfl hz.1
    | cons a l => rfl
  | p :: ls, hp => by
    have h1 := hp p (by simp)
    show Lib.fieldsGo [] (p ++ 32 :: joinPc 32 z ls) = _
    rw [fieldsGo_take p [] _ h1.2]
    cases p with
    | nil => exact absurd rfl h1.1
    | cons a l =>
      show Lib.fieldsGo (a :: l) (32 :: joinPc 32 z ls) = _
      rw [Lib.fieldsGo, show Lib.isSp 32 = true from rfl]
      simp only [if_true]
      rw [fields_join z hz ls (fun q hq => hp q (by simp [hq]))]
      rfl
theorem okMv_parts {n m : Nat} {x y : UInt8} (h : okMv n m x y = true) : (x.toNat = 97 ∧ 48 ≤ y.toNat ∧ y.toNat - 48 < n) ∨ (x.toNat = 98 ∧ 48 ≤ y.toNat ∧ y.toNat - 48 < m) := by
  unfold okMv at h
  simpa using h
theorem okPc_parts {n m : Nat} {p : ByteArray} (h : okPc n m p = true) : ∃ x y, p = ⟨#[x, y]⟩ ∧ okMv n m x y = true := by
  by_cases h2 : p.size = 2
  · obtain ⟨x, y, rfl⟩ := pc_two h2
    exact ⟨x, y, rfl, h⟩
  · rw [pc_no h2] at h; cases h
theorem isSp_no {b : UInt8} (h : 48 ≤ b.toNat) : Lib.isSp b = false := by
  have e : ∀ k : UInt8, k.toNat < 48 → (b == k) = false := fun k hk => by
    rw [beq_eq_false_iff_ne]
    rintro rfl
    omega
  unfold Lib.isSp
  rw [e 9 (by decide), e 10 (by decide), e 11 (by decide), e 12 (by decide), e 13 (by decide), e 32 (by decide)]
  rfl
theorem pc_letters {n m : Nat} {p : ByteArray} (h : okPc n m p = true) (hn : n ≤ 8) (hm : m ≤ 8) : p.data.toList ≠ [] ∧ ∀ b ∈ p.data.toList, 48 ≤ b.toNat ∧ b.toNat < 128 := by
  obtain ⟨x, y, rfl, hk⟩ := okPc_parts h
  have := okMv_parts hk
  refine ⟨by simp, fun b hb => ?_⟩
  simp at hb
  rcases hb with rfl | rfl <;> omega
/-- The moves of a text. -/
def mvsOf (s : ByteArray) : List ByteArray := if s.size = 0 then [] else cutS 32 s ++ [cutZ 32 s]
theorem moves_ok {n m : Nat} {s : ByteArray} (h : okMs n m s = true) : (mvsOf s).length ≤ 3 ∧ ∀ p ∈ mvsOf s, okPc n m p = true := by
  unfold okMs at h
  unfold mvsOf
  by_cases h0 : s.size = 0
  · rw [if_pos h0]; exact ⟨by simp, fun p hp => by cases hp⟩
  · rw [if_neg h0]
    rw [decide_eq_false h0, Bool.false_or, Bool.and_eq_true] at h
    exact ⟨by have := of_decide_eq_true h.2; simp; omega, List.all_eq_true.1 h.1⟩
theorem moves_fields {n m : Nat} {s : ByteArray} (h : okMs n m s = true) (hn : n ≤ 8) (hm : m ≤ 8) : (Lib.fields s.data.toList).map (fun l => (⟨l.toArray⟩ : ByteArray)) = mvsOf s ∧ ∀ (j : Nat) b, s.data.toList[j]? = some b → b.toNat < 128 := by
  have hk := (moves_ok h).2
  unfold mvsOf at hk ⊢
  by_cases h0 : s.size = 0
  · have hs : s.data.toList = [] := List.eq_nil_of_length_eq_zero (by simpa using h0)
    rw [if_pos h0, hs]
    exact ⟨rfl, fun j b hb => by simp at hb⟩
  · rw [if_neg h0] at hk ⊢
    have hl := fun p hp => pc_letters (hk p hp) hn hm
    have hZ := hl (cutZ 32 s) (by simp)
    have hS := fun p hp => hl p (List.mem_append_left _ hp)
    have e : (cutS 32 s).map (fun s => s.data.toList) = (cutL 32 s.data.toList).1 := by
      unfold cutS
      rw [List.map_map]
      exact (List.map_congr_left fun l _ => rfl).trans (List.map_id _)
    have hj : joinPc 32 (cutZ 32 s).data.toList ((cutS 32 s).map fun s => s.data.toList) = s.data.toList := by
      rw [e]; exact cutL_join 32 _
    have hf := fields_join (cutZ 32 s).data.toList ⟨hZ.1, fun b hb => isSp_no (hZ.2 b hb).1⟩ ((cutS 32 s).map fun s => s.data.toList) (fun p hp => by
      obtain ⟨q, hq, rfl⟩ := List.mem_map.1 hp
      exact ⟨(hS q hq).1, fun b hb => isSp_no ((hS q hq).2 b hb).1⟩)
    rw [hj] at hf
    constructor
    · show (Lib.fieldsGo [] s.data.toList).map _ = _
      rw [hf, List.map_append, List.map_map]
      congr 1
      exact (List.map_congr_left fun l _ => rfl).trans (List.map_id _)
    · have all : ∀ (ls : List (List UInt8)) (z : List UInt8), (∀ b ∈ z, b.toNat < 128) → (∀ p ∈ ls, ∀ b ∈ p, b.toNat < 128) → ∀ b ∈ joinPc 32 z ls, b.toNat < 128 := by
        intro ls
        induction ls with
        | nil => intro z hz _ b hb; exact hz b hb
        | cons p ls ih =>
          intro z hz hp b hb
          rcases List.mem_append.1 (show b ∈ p ++ 32 :: joinPc 32 z ls from hb) with hb | hb
          · exact hp p (by simp) b hb
          · rcases List.mem_cons.1 hb with rfl | hb
            · decide
            · exact ih z hz (fun q hq => hp q (by simp [hq])) b hb
      intro j b hb
      have hm : b ∈ s.data.toList := List.mem_of_getElem? hb
      rw [← hj] at hm
      exact all _ _ (fun b hb => (hZ.2 b hb).2) (fun p hp b hb => by
        obtain ⟨q, hq, rfl⟩ := List.mem_map.1 hp
        exact ((hS q hq).2 b hb).2) b hm
/-- The library cuts a text of moves into them. -/
theorem Fields_moves (n m : Nat) (s : ByteArray) (h : okMs n m s = true) (hn : n ≤ 8) (hm : m ≤ 8) (hs : s.size ≤ 900) (w : World) (ht : Lib.TabIs Tryz.prog w "strings.asciiSpace" .u8 Lib.asciiSpaceTab) :
    Calls Tryz.prog 22 #[.string s] w fun e w' => e = .returned (.slice (some ⟨w.heap.size, 0, none⟩) (mvsOf s).length (mvsOf s).length) ∧ w' = w.alloc (.cells ((mvsOf s).map Value.string).toArray 9) := by
  obtain ⟨h1, h2⟩ := moves_fields h hn hm
  refine (Any.strings_Fields_laid Tryz.lays157 s w (by omega) h2 ht).mono fun e w' ⟨he, hw⟩ => ?_
  have hl : (Lib.fields s.data.toList).length = (mvsOf s).length := by rw [← h1, List.length_map]
  have hm : (Lib.fields s.data.toList).map (fun l => Value.string ⟨l.toArray⟩) = (mvsOf s).map Value.string := by rw [← h1, List.map_map]; rfl
  rw [hl] at he
  rw [hm] at hw
  exact ⟨he, hw⟩
end Go.Proofs.YthmhjihppbeodaaGreatDoor
