/- The program's firstLike and WordClasses. Condition: the words have at most eight letters. -/
import Derived.Test.YtagnikcnakdehaaDoorWords
import Derived.Test.YtagnikcnakdehaaDoorNew
import Derived.Test.YtagnikcnakdehaaDoorNum
namespace Go.Proofs.YtagnikcnakdehaaDoor
open Go.RowKit
set_option linter.unusedVariables false

/-- Whether a game does not tell two words apart. -/
def likeW (k : Nat) (v u : ByteArray) : Bool := Gs.wins k (wSt v) [] (wSt u) []
/-- The first word that is in one class with a word. -/
def firstL (k : Nat) (L : List ByteArray) (u : ByteArray) : ByteArray := (L.find? fun v => likeW k v u).getD ByteArray.empty
/-- The first word of each class. -/
def clsL (k : Nat) (L : List ByteArray) : List ByteArray := L.foldl (fun out u => if out.any (fun v => likeW k v u) then out else out ++ [u]) []
theorem find_take {L : List ByteArray} {p : ByteArray → Bool} {i : Nat} (hi : i < L.length) (h : ∀ j, j < i → p (L.getD j ByteArray.empty) = false) (hp : p (L.getD i ByteArray.empty) = true) : L.find? p = some (L.getD i ByteArray.empty) := by
  rw [List.find?_eq_some_iff_append]
  have e : L[i] = L.getD i ByteArray.empty := by simp [hi]
  refine ⟨hp, L.take i, L.drop (i + 1), ?_, ?_⟩
  · rw [← e, ← List.drop_eq_getElem_cons hi, List.take_append_drop]
  · intro a ha
    obtain ⟨j, hj, rfl⟩ := List.mem_iff_getElem.1 ha
    rw [List.length_take] at hj
    have := h j (by omega)
    rw [List.getElem_take]
    have e2 : L[j] = L.getD j ByteArray.empty := by simp [show j < L.length by omega]
    rw [e2, this]; rfl
theorem find_no {L : List ByteArray} {p : ByteArray → Bool} (h : ∀ j, j < L.length → p (L.getD j ByteArray.empty) = false) : L.find? p = none := by
  rw [List.find?_eq_none]
  intro a ha
  obtain ⟨j, hj, rfl⟩ := List.mem_iff_getElem.1 ha
  have := h j hj
  have e2 : L[j] = L.getD j ByteArray.empty := by simp [hj]
  rw [e2, this]; simp
/-- What a call leaves that returns a text and turns nothing that was there. -/
def TxtB (w : World) (t : ByteArray) (e : Ending) (w' : World) : Prop := e = .returned (.string t) ∧ Below w.heap.size w w'

set_option maxRecDepth 100000 in
theorem firstLike_any (v : Value) (L : List ByteArray) (u : ByteArray) (k : Nat) (w : World) (hv : TextsAt w v L) (hL : ∀ x ∈ L, x.size ≤ 8) (hu : u.size ≤ 8) (hk : k ≤ 8) (hl : L.length ≤ 1000) :
    Calls Tryd.prog 71 #[v, .string u, .int .i64 (k : Int)] w (TxtB w (firstL k L u)) := by
  obtain ⟨a, cap, rfl, h1, h2, hcell⟩ := hv.view
  unfold maxLen at h2
  have HC := Lib.hid hcell
  have HL := Lib.hid hL
  have HLL := Lib.hid hl
  have HS := Lib.hid (fun x w hx => sameWords_any x u k w hx hu hk)
  obtain ⟨RES, hres⟩ : ∃ r, firstL k L u = r := ⟨_, rfl⟩
  have HR := Lib.hid hres
  rw [hres]
  have hlI : (L.length : Int) ≤ 9223372036854775807 := by omega
  clear hv hL hcell hres hl
  go_enter Tryd.func71, Tryd.ntmps71
  go_wp2_with fail
  go_loopw [11] (fun q wr => ∃ i : Nat, i ≤ L.length ∧ q = .int .i64 i ∧ Hid (∀ j, j < i → likeW k (L.getD j ByteArray.empty) u = false) ∧ Hid (Below w.heap.size w wr)) (fun q _ => L.length - (intOf q).toNat)
  case atStart => exact ⟨0, by omega, rfl, fun j hj => by omega, Below.refl _ _⟩
  case round =>
    obtain ⟨i, hi, rfl, HK, HB⟩ := hrel
    by_cases hlt : i < L.length
    · obtain ⟨g, o, rfl, hg, hc⟩ := HC.out (by omega)
      have d1 := (HB.out.cell (p := ⟨g, o + i, none⟩) hg).trans (hc i hlt)
      have HW := Lib.hid (fun w => HS.out (L.getD i ByteArray.empty) w (HL.out _ (by simp [hlt])))
      have HF : Hid (likeW k (L.getD i ByteArray.empty) u = true → L.getD i ByteArray.empty = RES) := fun h => by
        rw [← HR.out]
        unfold firstL
        rw [find_take (p := fun v => likeW k v u) hlt HK.out h]; rfl
      have HN : Hid (likeW k (L.getD i ByteArray.empty) u = false → ∀ j, j < i + 1 → likeW k (L.getD j ByteArray.empty) u = false) := fun h j hj => by
        by_cases hji : j = i
        · rw [hji]; exact h
        · exact HK.out j (by omega)
      have e : ∀ x, Gs.wins k (wSt x) [] (wSt u) [] = likeW k x u := fun _ => rfl
      rw [e] at HW
      obtain ⟨x, hx⟩ : ∃ x, L.getD i ByteArray.empty = x := ⟨_, rfl⟩
      rw [hx] at d1 HW HF HN
      obtain ⟨b, hb⟩ : ∃ b, likeW k x u = b := ⟨_, rfl⟩
      rw [hb] at HW HF HN
      clear hx hb hc e
      cases b
      · go_wp2_with fail
        refine (HW.out _).mono ?_; rintro e w1 ⟨rfl, hb⟩
        have HB1 := Lib.hid (HB.out.trans (hb.mono HB.out.size)); clear hb
        go_wp2_with fail
        go_roundw
        case rel => exact ⟨i + 1, by omega, by go_num, HN.out (by simp), HB1.out⟩
        case measure => simp [intOf]; omega
      · go_wp2_with fail
        refine (HW.out _).mono ?_; rintro e w1 ⟨rfl, hb⟩
        have HB1 := Lib.hid (HB.out.trans (hb.mono HB.out.size)); clear hb
        go_wp2_with fail
        go_ret
        exact ⟨congrArg (fun s => Ending.returned (.string s)) (HF.out (by simp)), HB1.out⟩
    · have HF : Hid (ByteArray.empty = RES) := by
        show _ = _
        rw [← HR.out]
        unfold firstL
        rw [find_no (p := fun v => likeW k v u) (fun j hj => HK.out j (by omega))]; rfl
      go_wp2_with fail
      go_ret
      exact ⟨congrArg (fun s => Ending.returned (.string s)) HF.out, HB.out⟩
end Go.Proofs.YtagnikcnakdehaaDoor
