/- Contracts of the program's functions and what they compute: part 31. Conditions: those that each theorem states. -/
import Derived.Test.YthmhjihppbeodaaGreatDoorP7n11
import Derived.Test.YthmhjihppbeodaaGreatDoorP7n8
namespace Go.Proofs.YthmhjihppbeodaaGreatDoor
set_option linter.unusedVariables false
/-- All pieces of a list at a byte. -/
def pcs (c : UInt8) (l : List UInt8) : List (List UInt8) := (cutL c l).1 ++ [(cutL c l).2]
theorem pcs_eq (c : UInt8) (l : List UInt8) : pcs c (c :: l) = [] :: pcs c l := by
  unfold pcs
  rw [cutL, if_pos rfl]
  rfl
theorem pcs_ne {c x : UInt8} {l p : List UInt8} {ps : List (List UInt8)} (h : x ≠ c) (hp : pcs c l = p :: ps) : pcs c (x :: l) = (x :: p) :: ps := by
  unfold pcs at hp ⊢
  rw [cutL, if_neg h]
  cases hq : (cutL c l).1 with
  | nil =>
    rw [hq] at hp
    simp only [List.nil_append, List.cons.injEq] at hp
    obtain ⟨rfl, rfl⟩ := hp
    rfl
  | cons q qs =>
    rw [hq] at hp
    simp only [List.cons_append, List.cons.injEq] at hp
    obtain ⟨rfl, rfl⟩ := hp
    rfl
/-- Up to the first byte, the byte, and what is behind it. -/
theorem pcs_at {c : UInt8} : ∀ (k : Nat) (l : List UInt8), (∀ j, j < k → l[j]? ≠ some c) → l[k]? = some c → pcs c l = l.take k :: pcs c (l.drop (k + 1))
  | 0, [], _, h => by simp at h
  | 0, x :: l, _, h => by
    simp at h
    subst h
    rw [pcs_eq]; rfl
  | k + 1, [], _, h => by simp at h
  | k + 1, x :: l, hn, h => by
    have h0 : x ≠ c := fun e => hn 0 (by omega) (by simp [e])
    have ih := pcs_at k l (fun j hj => by have := hn (j + 1) (by omega); simpa using this) (by simpa using h)
    rw [pcs_ne h0 ih]
    simp
theorem pcs_end {c : UInt8} : ∀ (l : List UInt8), (∀ j, j < l.length → l[j]? ≠ some c) → pcs c l = [l]
  | [], _ => rfl
  | x :: l, hn => by
    have h0 : x ≠ c := fun e => hn 0 (by simp) (by simp [e])
    have ih := pcs_end l (fun j hj => by have := hn (j + 1) (by simp; omega); simpa using this)
    rw [pcs_ne h0 ih]
theorem pcs_len (c : UInt8) : ∀ l : List UInt8, (pcs c l).length ≤ l.length + 1
  | [] => by simp [pcs, cutL]
  | x :: l => by
    have ih := pcs_len c l
    by_cases h : x = c
    · subst h; rw [pcs_eq]; simp; omega
    · cases hp : pcs c l with
      | nil => simp [pcs] at hp
      | cons p ps => rw [pcs_ne h hp]; rw [hp] at ih; simp at ih ⊢; omega
/-- The pieces of a text. -/
def pcsS (c : UInt8) (s : ByteArray) : List ByteArray := (pcs c s.data.toList).map fun l => ⟨l.toArray⟩
theorem pcsS_is (c : UInt8) (s : ByteArray) : pcsS c s = cutS c s ++ [cutZ c s] := by
  unfold pcsS pcs cutS cutZ
  rw [List.map_append]
  rfl
/-- The pieces from a place on. -/
def pcsF (c : UInt8) (s : ByteArray) (i : Nat) : List ByteArray := (pcs c (s.data.toList.drop i)).map fun l => ⟨l.toArray⟩
theorem pcsF_zero (c : UInt8) (s : ByteArray) : pcsF c s 0 = pcsS c s := by unfold pcsF pcsS; rw [List.drop_zero]
theorem extract_take (s : ByteArray) (f i : Nat) (h : f ≤ i) : (⟨((s.data.toList.drop f).take (i - f)).toArray⟩ : ByteArray) = s.extract f i := by
  apply ByteArray.ext
  apply Array.toList_inj.1
  simp [ByteArray.data_extract, Array.toList_extract]
theorem pcsF_at {c : UInt8} {s : ByteArray} {f i : Nat} (h : f ≤ i) (hn : ∀ j, f ≤ j → j < i → s.data.toList[j]? ≠ some c) (hi : s.data.toList[i]? = some c) : pcsF c s f = s.extract f i :: pcsF c s (i + 1) := by
  unfold pcsF
  rw [pcs_at (i - f) _ (fun j hj => by rw [List.getElem?_drop]; exact hn _ (by omega) (by omega)) (by rw [List.getElem?_drop, show f + (i - f) = i by omega]; exact hi), List.drop_drop, List.map_cons, extract_take s f i h, show f + (i - f + 1) = i + 1 by omega]
theorem pcsF_end {c : UInt8} {s : ByteArray} {f : Nat} (h : f ≤ s.size) (hn : ∀ j, f ≤ j → j < s.size → s.data.toList[j]? ≠ some c) : pcsF c s f = [s.extract f s.size] := by
  have hl : s.data.toList.length = s.size := by simp
  unfold pcsF
  rw [pcs_end _ (fun j hj => by rw [List.length_drop] at hj; rw [List.getElem?_drop]; exact hn _ (by omega) (by omega))]
  rw [← extract_take s f s.size h, List.take_of_length_le (by rw [List.length_drop]; omega)]
  rfl
end Go.Proofs.YthmhjihppbeodaaGreatDoor

namespace Go.Proofs.YthmhjihppbeodaaGreatDoor
open Go.RowKit
set_option linter.unusedVariables false
set_option maxRecDepth 100000
/-- What is known while a text is cut. -/
structure Ct (c : UInt8) (s : ByteArray) (i f : Nat) (L : List ByteArray) : Prop where
  le : f ≤ i
  few : L.length ≤ i
  on : i ≤ s.size → L ++ pcsF c s f = pcsS c s ∧ ∀ j, f ≤ j → j < i → s.data.toList[j]? ≠ some c
  out : i = s.size + 1 → L = pcsS c s
theorem Ct.new (c : UInt8) (s : ByteArray) : Ct c s 0 0 [] := ⟨Nat.le_refl _, Nat.le_refl _, fun _ => ⟨by rw [pcsF_zero]; rfl, fun j _ h => absurd h (Nat.not_lt_zero j)⟩, fun h => absurd h (by omega)⟩
theorem Ct.last {c : UInt8} {s : ByteArray} {f : Nat} {L : List ByteArray} (h : Ct c s s.size f L) : Ct c s (s.size + 1) (s.size + 1) (L ++ [s.extract f s.size]) := by
  refine ⟨Nat.le_refl _, by have := h.few; simp; omega, fun h => absurd h (by omega), fun _ => ?_⟩
  obtain ⟨h1, h2⟩ := h.on (Nat.le_refl _)
  rw [pcsF_end h.le h2] at h1
  exact h1
theorem Ct.cut {c : UInt8} {s : ByteArray} {i f : Nat} {L : List ByteArray} (h : Ct c s i f L) (hi : i < s.size) (hc : s.data.toList[i]? = some c) : Ct c s (i + 1) (i + 1) (L ++ [s.extract f i]) := by
  refine ⟨Nat.le_refl _, by have := h.few; simp; omega, fun _ => ⟨?_, fun j h1 h2 => absurd h2 (by omega)⟩, fun h => absurd h (by omega)⟩
  obtain ⟨h1, h2⟩ := h.on (by omega)
  rw [pcsF_at h.le h2 hc] at h1
  rw [List.append_assoc]
  exact h1
theorem Ct.skip {c : UInt8} {s : ByteArray} {i f : Nat} {L : List ByteArray} (h : Ct c s i f L) (hi : i < s.size) (hc : s.data.toList[i]? ≠ some c) : Ct c s (i + 1) f L := by
  refine ⟨by have := h.le; omega, by have := h.few; omega, fun _ => ⟨(h.on (by omega)).1, fun j h1 h2 => ?_⟩, fun h => absurd h (by omega)⟩
  by_cases hj : j = i
  · rw [hj]; exact hc
  · exact (h.on (by omega)).2 j h1 (by omega)
set_option maxHeartbeats 1000000 in
theorem l15Cut_any (s : ByteArray) (c : UInt8) (w : World) (hs : s.size ≤ 1000000) :
    Calls Tryz.prog 48 #[.string s, .int .u8 (c.toNat : Int)] w fun e w' => ∃ v, e = .returned v ∧ Strs w w' v (pcsS c s) := by
  have HSL : Hid (∀ (f i : Nat) wx, f ≤ i → i ≤ s.size → (Instr.slice 9 (.string s) (some (.int .i64 (f : Int))) (some (.int .i64 (i : Int))) none).run Tryz.prog wx = .ok (.string (s.extract f i)) wx) := fun f i wx h1 h2 => by
    exact run_slice_string wx _ s _ _ _ _ Tryz.underlying9 (by omega) (by omega) (by omega)
  have HS0 := Lib.hid (Strs.lit0 w)
  go_enter Tryz.func48, Tryz.ntmps48
  go_wp2_with fail
  go_loopw [7, 5, 6] (fun q v o wr => ∃ (i f : Nat) (L : List ByteArray), i ≤ s.size + 1 ∧ q = .int .i64 (i : Int) ∧ o = .int .i64 (f : Int) ∧ f ≤ i ∧ L.length ≤ i ∧ Hid (Strs w wr v L) ∧ Hid (Ct c s i f L)) (fun q _ _ _ => s.size + 1 - (intOf q).toNat)
  case atStart => exact ⟨0, 0, [], by omega, rfl, rfl, by omega, by simp, HS0.out, Ct.new c s⟩
  case round =>
    clear HS0
    obtain ⟨i, f, L, hi, rfl, rfl, hfi, hLi, HS, HC⟩ := hrel
    by_cases hle : i ≤ s.size
    · have hleI : (i : Int) ≤ (s.size : Int) := by omega
      have hsl : ∀ wx, (Instr.slice 9 (.string s) (some (.int .i64 (f : Int))) (some (.int .i64 (i : Int))) none).run Tryz.prog wx = .ok (.string (s.extract f i)) wx := fun wx => HSL.out f i wx hfi hle
      clear HSL
      by_cases hlt : i < s.size
      · have hg : s.data.toList[i]? = some s[i] := by
          rw [List.getElem?_eq_getElem (by simpa using hlt)]
          rfl
        have HCU := Lib.hid (HC.out.cut hlt)
        have HSK := Lib.hid (HC.out.skip hlt)
        rw [hg] at HCU HSK
        obtain ⟨x, hx⟩ : ∃ x, s[i] = x := ⟨_, rfl⟩
        rw [hx] at HCU HSK
        have hneI : ¬ (i : Int) = (s.size : Int) := by omega
        clear hg HC
        by_cases hq : x = c
        · have HC2 := Lib.hid (HCU.out (by rw [hq]))
          have e1 : ((x.toNat : Int) == (c.toNat : Int)) = true := by rw [hq]; simp
          clear HCU HSK hq
          go_wp2_with (first | (at_builtin; refine wpList_app1 HS.out (by omega) rfl (.tmp 26) (.tmp 31) rfl _ _ rfl rfl rfl ?_; intro v' w' hs'; have HS' := Lib.hid hs'; clear hs') | fail)
          go_roundw
          case rel => exact ⟨i + 1, i + 1, L ++ [s.extract f i], by omega, by go_num, by go_num, by omega, by simp; omega, HS', HC2⟩
          case measure => simp [intOf]; omega
        · have HC2 := Lib.hid (HSK.out (fun e => hq (Option.some.inj e)))
          have hq' : x.toNat ≠ c.toNat := fun h => hq (UInt8.toNat_inj.1 h)
          have e1 : ((x.toNat : Int) == (c.toNat : Int)) = false := by simp; omega
          clear HCU HSK hq hq'
          go_wp2_with fail
          go_roundw
          case rel => exact ⟨i + 1, f, L, by omega, by go_num, rfl, by omega, by omega, HS, HC2⟩
          case measure => simp [intOf]; omega
      · obtain rfl : i = s.size := by omega
        have HC2 := Lib.hid HC.out.last
        clear HC
        go_wp2_with (first | (at_builtin; refine wpList_app1 HS.out (by omega) rfl (.tmp 26) (.tmp 31) rfl _ _ rfl rfl rfl ?_; intro v' w' hs'; have HS' := Lib.hid hs'; clear hs') | fail)
        go_roundw
        case rel => exact ⟨s.size + 1, s.size + 1, L ++ [s.extract f s.size], by omega, by go_num, by go_num, by omega, by simp; omega, HS', HC2⟩
        case measure => simp [intOf]
    · obtain rfl : i = s.size + 1 := by omega
      have HE : Hid (L = pcsS c s) := HC.out.out rfl
      clear HC
      go_wp2_with fail
      go_ret
      exact ⟨_, rfl, by rw [← HE.out]; exact HS.out⟩
end Go.Proofs.YthmhjihppbeodaaGreatDoor
