/- Contracts of the program's functions and what they compute: part 16. Conditions: those that each theorem states. -/
import Derived.Test.YtofmagiahmmmgaaGreatDoorP53n8
import Derived.Test.YtofmagiahmmmgaaGreatDoorP53n4
import Derived.Test.YtofmagiahmmmgaaGreatDoorP53n7
import Derived.Test.YtofmagiahmmmgaaGreatDoorP53n12
import Derived.Test.YtofmagiahmmmgaaGreatDoorP53n13
import Derived.Test.YtofmagiahmmmgaaGreatDoorP53n15
import Derived.Test.YtofmagiahmmmgaaGreatDoorP53n2
import Derived.Test.YtofmagiahmmmgaaGreatDoorP53n6
namespace Go.Proofs.YtofmagiahmmmgaaGreatDoor
open Go.RowKit
set_option linter.unusedVariables false
set_option maxRecDepth 100000
/-- A list of numbers that a call has built. -/
def ListI (L : List Int) (w : World) (e : Ending) (w' : World) : Prop := ∃ v, e = .returned v ∧ OwnI w.heap.size w' v L ∧ Below w.heap.size w w'
theorem besides_any (n : Nat) (hn : n ≤ 1000) (w : World) : Calls Tryz.prog 26 #[.int .i64 (n : Int)] w (ListI (List.replicate n (-1)) w) := by
  have HP0 : Hid (OwnI w.heap.size (w.alloc (.cells #[] 3)) (.slice (some ⟨w.heap.size, 0, none⟩) 0 0) (List.replicate 0 (-1)) ∧ Below w.heap.size w (w.alloc (.cells #[] 3))) := ⟨OwnI.lit0 _ _ (Nat.le_refl _), (Below.refl _ _).alloc (Nat.le_refl _) _⟩
  go_enter Tryz.func26, Tryz.ntmps26
  go_wp2_with fail
  go_loopw [6, 3] (fun q o wr => ∃ k : Nat, k ≤ n ∧ q = .int .i64 (k : Int) ∧ Hid (OwnI w.heap.size wr o (List.replicate k (-1)) ∧ Below w.heap.size w wr)) (fun q _ _ => n - (intOf q).toNat)
  case atStart => exact ⟨0, by omega, rfl, HP0.out⟩
  case round =>
    clear HP0
    obtain ⟨k, hk, rfl, HP⟩ := hrel
    by_cases hlt : k < n
    · have hkI : (k : Int) < (n : Int) := by omega
      have HLL : Hid ((List.replicate k (-1 : Int)).length ≤ 2000000) := by show _ ≤ _; rw [List.length_replicate]; omega
      go_wp2_with (first | (at_builtin; refine wpList_ownI1 HP.out.1 HLL.out rfl (.tmp 8) (.tmp 9) rfl (-1) _ rfl rfl rfl ?_; intro v' w' ho hg; have HP2 : Hid (OwnI w.heap.size w' v' (List.replicate (k + 1) (-1)) ∧ Below w.heap.size w w') := ⟨by rw [List.replicate_succ']; exact ho, HP.out.2.grown hg HP.out.2.size (fun j hj => (HP.out.1.own.lt j hj).1)⟩; clear ho hg) | fail)
      go_roundw
      case rel => exact ⟨k + 1, by omega, by go_num, HP2.out⟩
      case measure => simp [intOf]; omega
    · obtain rfl : k = n := by omega
      have HF : Hid (ListI (List.replicate k (-1)) w (.returned u3) wr) := ⟨_, rfl, HP.out.1, HP.out.2⟩
      go_wp2_with fail
      go_ret
      exact HF.out
end Go.Proofs.YtofmagiahmmmgaaGreatDoor

namespace Go.Proofs.YtofmagiahmmmgaaGreatDoor
open Go.RowKit
set_option linter.unusedVariables false
set_option maxRecDepth 100000
theorem OwnI.frozen {B g n cap : Nat} {w : World} {L : List Int} (h : OwnI B w (.slice (some ⟨g, 0, none⟩) n cap) L) (hn : L.length = n) (j : Nat) : w.frozen? ⟨g, j, none⟩ = false := by
  have h1 := h.own
  rw [hn] at h1
  exact h1.frozenAt j
theorem turn_less {n m k : Nat} {F : List Bool} {t : Nat} (h : turnU n m k F (lev n m k F t) ≠ lev n m k F t) : cntT (lev n m k F (t + 1)) < cntT (lev n m k F t) :=
  cntT_lt (by rw [lev_len, lev_len]) (lev_le n m k F t) h
theorem PebS.low {B B' : Nat} {w : World} {p n m k : Nat} {S R S2 R2 : ByteArray} {F W : List Bool} (h : PebS B w p n S R m S2 R2 k F W) (hB : B' ≤ B) : PebS B' w p n S R m S2 R2 k F W := by
  obtain ⟨fv, wv, h1, h2, h3, h4, h5, h6, h7⟩ := h
  exact ⟨fv, wv, h1, h2, h3, h4, h5, fun j hj => Nat.le_trans hB (h6 j hj), fun j hj => Nat.le_trans hB (h7 j hj)⟩
end Go.Proofs.YtofmagiahmmmgaaGreatDoor

namespace Go.Proofs.YtofmagiahmmmgaaGreatDoor
open Go.RowKit
set_option linter.unusedVariables false
set_option maxRecDepth 100000
theorem signed_any (s : ByteArray) (is : Bool) (w : World) (hs : s.size ≤ 1000000) : Calls Tryz.prog 94 #[.string s, .bool is] w fun e w' => e = .returned (.string (sgB s is)) ∧ w' = w := by
  cases is
  · have hz : ¬ 9223372036854775807 < (⟨#[33]⟩ : ByteArray).size + s.size := by show ¬ _ < 1 + s.size; omega
    go_enter Tryz.func94, Tryz.ntmps94
    go_wp2_with fail
    go_ret
    exact ⟨rfl, rfl⟩
  · go_enter Tryz.func94, Tryz.ntmps94
    go_wp2_with fail
    go_ret
    exact ⟨rfl, rfl⟩
theorem short_any (s : ByteArray) (w : World) (hs : s.size ≤ 4000) : Calls Tryz.prog 51 #[.string s, .bool true] w fun e w' => e = .returned (.tuple #[.string s, .bool true]) ∧ w' = w := by
  have h1 : ¬ ((4000 : Int) < (s.size : Int)) := by omega
  have h1B : decide ((4000 : Int) < (s.size : Int)) = false := decide_eq_false h1
  go_enter Tryz.func51, Tryz.ntmps51
  go_wp2_with fail
  go_ret2
  exact ⟨rfl, rfl⟩
theorem tl_ne {x f : ByteArray} (h : x ≠ f) : (f.toList == x.toList) = false ∧ (x.toList == f.toList) = false := by
  have key : ∀ {x f : ByteArray}, f.toList = x.toList → f = x := fun {x f} e => by
    have h1 := (text_is f x.toList).1 e
    have h2 := (text_is x x.toList).1 rfl
    rw [h1, ← h2]
  rw [beq_eq_false_iff_ne, beq_eq_false_iff_ne]
  exact ⟨fun e => h (key e).symm, fun e => h (key e)⟩
theorem indexStr_any (v : Value) (L : List ByteArray) (f : ByteArray) (g cap : Nat) (w : World) (hcap : L.length ≤ cap) (hcm : cap ≤ maxLen) (hl : L.length ≤ 1000) (hc : ∀ j (hj : j < L.length), w.cell? ⟨g, j, none⟩ = some (.string L[j])) :
    Calls Tryz.prog 158 #[.slice (some ⟨g, 0, none⟩) L.length cap, .string f] w fun e w' => (∃ z : Int, e = .returned (.int .i64 z) ∧ decide (0 ≤ z) = hasB L f) ∧ w' = w := by
  unfold maxLen at hcm
  have HC := Lib.hid hc
  clear hc
  go_enter Tryz.func158, Tryz.ntmps158
  go_wp2_with fail
  go_loopw [8, 5] (fun i _ wr => (∃ k : Nat, k ≤ L.length ∧ i = .int .i64 (k : Int) ∧ Hid (∀ j (hj : j < L.length), j < k → L[j] ≠ f)) ∧ wr = w) (fun i _ _ => L.length - (intOf i).toNat)
  case atStart => exact ⟨⟨0, by omega, rfl, fun j _ hj => by omega⟩, rfl⟩
  case round =>
    obtain ⟨⟨k, hk, rfl, HK⟩, hw⟩ := hrel
    rw [hw]; clear hw
    by_cases hlt : k < L.length
    · have d1 := HC.out k hlt
      have hkI : (k : Int) < (L.length : Int) := by omega
      by_cases hx : L[k] = f
      · have HE : Hid (decide ((0 : Int) ≤ (k : Int)) = hasB L f) := by
          show _ = _
          unfold hasB
          rw [List.any_eq_true.2 ⟨L[k], List.getElem_mem hlt, by simpa using hx⟩]
          simp
        rw [hx] at d1
        clear hx
        go_wp2_with fail
        go_ret
        exact ⟨⟨_, rfl, HE.out⟩, rfl⟩
      · have HX := Lib.hid hx
        obtain ⟨hx1, hx2⟩ := tl_ne hx
        obtain ⟨x, hxe⟩ : ∃ x, L[k] = x := ⟨_, rfl⟩
        rw [hxe] at d1 hx hx1 hx2
        clear hxe
        go_wp2_with fail
        go_roundw
        case rel =>
          refine ⟨⟨k + 1, by omega, by go_num, fun j hj hjk => ?_⟩, trivial⟩
          by_cases e : j = k
          · subst e; exact HX.out
          · exact HK.out j hj (by omega)
        case measure => simp [intOf]; omega
    · have HE : Hid (decide ((0 : Int) ≤ -1) = hasB L f) := by
        show _ = _
        have : hasB L f = false := by
          unfold hasB
          rw [List.any_eq_false]
          intro x hx
          obtain ⟨j, hj, rfl⟩ := List.mem_iff_getElem.1 hx
          simpa using HK.out j hj (by omega)
        rw [this]; simp
      go_wp2_with fail
      go_ret
      exact ⟨⟨_, rfl, HE.out⟩, rfl⟩
theorem containsStr_any (L : List ByteArray) (f : ByteArray) (g cap : Nat) (w : World) (hcap : L.length ≤ cap) (hcm : cap ≤ maxLen) (hl : L.length ≤ 1000) (hc : ∀ j (hj : j < L.length), w.cell? ⟨g, j, none⟩ = some (.string L[j])) :
    Calls Tryz.prog 95 #[.slice (some ⟨g, 0, none⟩) L.length cap, .string f] w fun e w' => e = .returned (.bool (hasB L f)) ∧ w' = w := by
  have HI := Lib.hid (indexStr_any (.slice none 0 0) L f g cap w hcap hcm hl hc)
  clear hc
  generalize hasB L f = r at *
  go_enter Tryz.func95, Tryz.ntmps95
  go_wp2_with fail
  refine HI.out.mono ?_; rintro e w1 ⟨⟨z, rfl, hz⟩, hw⟩; rw [hw]; clear hw
  have HZ := Lib.hid hz; clear hz
  go_wp2_with fail
  go_ret
  exact ⟨ret_bool HZ.out, rfl⟩
/-- A list of texts that a call has built. -/
def ListS (L : List ByteArray) (w : World) (e : Ending) (w' : World) : Prop := ∃ v, e = .returned v ∧ Strs w w' v L
theorem withoutEqual_any (L : List ByteArray) (g cap : Nat) (w : World) (hcap : L.length ≤ cap) (hcm : cap ≤ maxLen) (hl : L.length ≤ 1000) (hg : g < w.heap.size) (hc : ∀ j (hj : j < L.length), w.cell? ⟨g, j, none⟩ = some (.string L[j])) :
    Calls Tryz.prog 54 #[.slice (some ⟨g, 0, none⟩) L.length cap] w (ListS (uniqL L) w) := by
  have HC := Lib.hid hc
  have hcm2 := hcm
  unfold maxLen at hcm2
  have HP0 : Hid (Strs w (w.alloc (.cells #[] 9)) (.slice (some ⟨w.heap.size, 0, none⟩) 0 0) (uniqL (L.take 0))) := Strs.lit0 w
  clear hc
  go_enter Tryz.func54, Tryz.ntmps54
  go_wp2_with fail
  go_loopw [9, 3, 5] (fun q o _ wr => ∃ k : Nat, k ≤ L.length ∧ q = .int .i64 (k : Int) ∧ Hid (Strs w wr o (uniqL (L.take k)))) (fun q _ _ _ => L.length - (intOf q).toNat)
  case atStart => exact ⟨0, by omega, rfl, HP0⟩
  case round =>
    clear HP0
    obtain ⟨k, hk, rfl, HP⟩ := hrel
    by_cases hlt : k < L.length
    · have hkI : (k : Int) < (L.length : Int) := by omega
      have d1 := (HP.out.old.cell (p := ⟨g, k, none⟩) hg).trans (HC.out k hlt)
      have HU : Hid (uniqL (L.take (k + 1)) = addU (uniqL (L.take k)) L[k]) := by show _ = _; rw [List.take_succ_eq_append_getElem hlt, uniqL_snoc]
      have HLN : Hid ((uniqL (L.take k)).length ≤ 1000) := by
        have := (uniqL_facts (L.take k)).2.1
        rw [List.length_take] at this
        show _ ≤ _
        omega
      generalize uniqL (L.take k) = U at *
      obtain ⟨x, hxe⟩ : ∃ x, L[k] = x := ⟨_, rfl⟩
      rw [hxe] at d1 HU
      clear hxe
      obtain ⟨ug, uc, rfl, m1, m2, m3, m4, m5⟩ := HP.out.cells
      have HCT := Lib.hid (containsStr_any U x ug uc wr m3 m4 HLN.out m5)
      have HUA : Hid (addU U x = if hasB U x = true then U else U ++ [x]) := rfl
      generalize hasB U x = r at *
      clear m5
      unfold maxLen at m4
      go_wp2_with fail
      refine HCT.out.mono ?_; rintro e w1 ⟨rfl, hw1⟩; rw [hw1]; clear hw1
      cases r
      · have HUB : Hid (uniqL (L.take (k + 1)) = U ++ [x]) := by show _ = _; rw [HU.out, HUA.out, if_neg (by decide)]
        have HL2 : Hid (U.length ≤ 2000000) := by have := HLN.out; show _ ≤ _; omega
        go_wp2_with (first | (at_builtin; refine wpList_app1 HP.out HL2.out rfl (.tmp 17) (.tmp 19) rfl x _ rfl rfl rfl ?_; intro v' w' ho; have HP9 := Lib.hid ho; clear ho) | fail)
        go_roundw
        case rel => exact ⟨k + 1, by omega, by go_num, by rw [HUB.out]; exact HP9⟩
        case measure => simp [intOf]; omega
      · have HUB : Hid (uniqL (L.take (k + 1)) = U) := by show _ = _; rw [HU.out, HUA.out, if_pos rfl]
        go_wp2_with fail
        go_roundw
        case rel => exact ⟨k + 1, by omega, by go_num, by rw [HUB.out]; exact HP⟩
        case measure => simp [intOf]; omega
    · obtain rfl : k = L.length := by omega
      have HF : Hid (ListS (uniqL L) w (.returned u3) wr) := ⟨u3, rfl, by have := HP.out; rw [List.take_length] at this; exact this⟩
      go_wp2_with fail
      go_ret
      exact HF.out
end Go.Proofs.YtofmagiahmmmgaaGreatDoor

namespace Go.Proofs.YtofmagiahmmmgaaGreatDoor
open Go.RowKit
set_option linter.unusedVariables false
set_option maxRecDepth 100000
/-- The words that a number may follow. -/
def knownL : List ByteArray := [⟨#[99, 111, 117, 110, 116]⟩, ⟨#[111, 114, 98, 105, 116]⟩, ⟨#[115, 97, 109, 101]⟩, ⟨#[109, 111, 118, 101]⟩, ⟨#[99, 108, 97, 115, 115, 101, 115]⟩, ⟨#[116, 121, 112, 101]⟩, ⟨#[112, 101, 98, 98, 108, 101, 115]⟩, ⟨#[99, 111, 108, 111, 117, 114, 115]⟩, ⟨#[98, 97, 108, 108, 115]⟩, ⟨#[110, 101, 97, 114]⟩, ⟨#[99, 111, 112, 105, 101, 115]⟩, ⟨#[111, 114, 100, 101, 114]⟩, ⟨#[99, 105, 114, 99, 108, 101]⟩, ⟨#[108, 101, 110, 103, 116, 104]⟩]
/-- A word with a number is answered by (*desk).asked; nothing turns. -/
def AskedOK (w0 : World) (l : ByteArray) (k : Nat) (a : DS) (o : ByteArray) : Prop := ∀ (W : World) (d : Nat), w0.heap.size ≤ d → Below w0.heap.size w0 W → DeskAt W d a →
  Calls Tryz.prog 143 #[.pointer (some ⟨d, 0, none⟩), .string l, .int .i64 (k : Int)] W fun e w' => e = .returned (.string o) ∧ DeskAt w' d a ∧ Off (fun x => x = d) W w'
theorem known_has (l : ByteArray) (h : hasB knownL l = true) (w : World) :
    Calls Tryz.prog 95 #[.slice (some ⟨w.heap.size, 0, none⟩) 14 14, .string l] (w.alloc (.cells #[.string ⟨#[99, 111, 117, 110, 116]⟩, .string ⟨#[111, 114, 98, 105, 116]⟩, .string ⟨#[115, 97, 109, 101]⟩, .string ⟨#[109, 111, 118, 101]⟩, .string ⟨#[99, 108, 97, 115, 115, 101, 115]⟩, .string ⟨#[116, 121, 112, 101]⟩, .string ⟨#[112, 101, 98, 98, 108, 101, 115]⟩, .string ⟨#[99, 111, 108, 111, 117, 114, 115]⟩, .string ⟨#[98, 97, 108, 108, 115]⟩, .string ⟨#[110, 101, 97, 114]⟩, .string ⟨#[99, 111, 112, 105, 101, 115]⟩, .string ⟨#[111, 114, 100, 101, 114]⟩, .string ⟨#[99, 105, 114, 99, 108, 101]⟩, .string ⟨#[108, 101, 110, 103, 116, 104]⟩] 9)) fun e w' => e = .returned (.bool true) ∧ w' = w.alloc (.cells #[.string ⟨#[99, 111, 117, 110, 116]⟩, .string ⟨#[111, 114, 98, 105, 116]⟩, .string ⟨#[115, 97, 109, 101]⟩, .string ⟨#[109, 111, 118, 101]⟩, .string ⟨#[99, 108, 97, 115, 115, 101, 115]⟩, .string ⟨#[116, 121, 112, 101]⟩, .string ⟨#[112, 101, 98, 98, 108, 101, 115]⟩, .string ⟨#[99, 111, 108, 111, 117, 114, 115]⟩, .string ⟨#[98, 97, 108, 108, 115]⟩, .string ⟨#[110, 101, 97, 114]⟩, .string ⟨#[99, 111, 112, 105, 101, 115]⟩, .string ⟨#[111, 114, 100, 101, 114]⟩, .string ⟨#[99, 105, 114, 99, 108, 101]⟩, .string ⟨#[108, 101, 110, 103, 116, 104]⟩] 9) := by
  have h1 := containsStr_any knownL l w.heap.size 14 (w.alloc (.cells (knownL.map Value.string).toArray 9)) (by decide) (by decide) (by decide) (fun j hj => by
    rw [World.cell?_alloc_new]
    simp [hj])
  rw [h] at h1
  exact h1
set_option maxHeartbeats 1000000 in
theorem numbered_same (w0 : World) (ht : Tab w0) (a : DS) (k : Nat) (hk : k ≤ 9) (s : ByteArray) (HA0 : AskedOK w0 ⟨#[115, 97, 109, 101]⟩ k a s) (W : World) (d : Nat) (hd : w0.heap.size ≤ d) (hB : Below w0.heap.size w0 W) (hD : DeskAt W d a) :
    Calls Tryz.prog 82 #[.pointer (some ⟨d, 0, none⟩), .string ⟨#[115, 97, 109, 101]⟩, .string (itoS (k : Int))] W fun e w' => e = .returned (.string s) ∧ DeskAt w' d a ∧ Off (fun x => x = d) W w' := by
  have HCO := Lib.hid (fun w => known_has ⟨#[115, 97, 109, 101]⟩ (by decide) w)
  have HNO := Lib.hid (fun w ht => numberOf_digit k hk w ht)
  have HA := Lib.hid (fun W hB hD => HA0 W d hd hB hD)
  have hb0 : Below W.heap.size W (W.alloc (.cells #[.string ⟨#[99, 111, 117, 110, 116]⟩, .string ⟨#[111, 114, 98, 105, 116]⟩, .string ⟨#[115, 97, 109, 101]⟩, .string ⟨#[109, 111, 118, 101]⟩, .string ⟨#[99, 108, 97, 115, 115, 101, 115]⟩, .string ⟨#[116, 121, 112, 101]⟩, .string ⟨#[112, 101, 98, 98, 108, 101, 115]⟩, .string ⟨#[99, 111, 108, 111, 117, 114, 115]⟩, .string ⟨#[98, 97, 108, 108, 115]⟩, .string ⟨#[110, 101, 97, 114]⟩, .string ⟨#[99, 111, 112, 105, 101, 115]⟩, .string ⟨#[111, 114, 100, 101, 114]⟩, .string ⟨#[99, 105, 114, 99, 108, 101]⟩, .string ⟨#[108, 101, 110, 103, 116, 104]⟩] 9)) := (Below.refl _ _).alloc (Nat.le_refl _) _
  have HD : Hid (DeskAt (W.alloc (.cells #[.string ⟨#[99, 111, 117, 110, 116]⟩, .string ⟨#[111, 114, 98, 105, 116]⟩, .string ⟨#[115, 97, 109, 101]⟩, .string ⟨#[109, 111, 118, 101]⟩, .string ⟨#[99, 108, 97, 115, 115, 101, 115]⟩, .string ⟨#[116, 121, 112, 101]⟩, .string ⟨#[112, 101, 98, 98, 108, 101, 115]⟩, .string ⟨#[99, 111, 108, 111, 117, 114, 115]⟩, .string ⟨#[98, 97, 108, 108, 115]⟩, .string ⟨#[110, 101, 97, 114]⟩, .string ⟨#[99, 111, 112, 105, 101, 115]⟩, .string ⟨#[111, 114, 100, 101, 114]⟩, .string ⟨#[99, 105, 114, 99, 108, 101]⟩, .string ⟨#[108, 101, 110, 103, 116, 104]⟩] 9)) d a ∧ Off (fun x => x = d) W (W.alloc (.cells #[.string ⟨#[99, 111, 117, 110, 116]⟩, .string ⟨#[111, 114, 98, 105, 116]⟩, .string ⟨#[115, 97, 109, 101]⟩, .string ⟨#[109, 111, 118, 101]⟩, .string ⟨#[99, 108, 97, 115, 115, 101, 115]⟩, .string ⟨#[116, 121, 112, 101]⟩, .string ⟨#[112, 101, 98, 98, 108, 101, 115]⟩, .string ⟨#[99, 111, 108, 111, 117, 114, 115]⟩, .string ⟨#[98, 97, 108, 108, 115]⟩, .string ⟨#[110, 101, 97, 114]⟩, .string ⟨#[99, 111, 112, 105, 101, 115]⟩, .string ⟨#[111, 114, 100, 101, 114]⟩, .string ⟨#[99, 105, 114, 99, 108, 101]⟩, .string ⟨#[108, 101, 110, 103, 116, 104]⟩] 9)) ∧ Below w0.heap.size w0 (W.alloc (.cells #[.string ⟨#[99, 111, 117, 110, 116]⟩, .string ⟨#[111, 114, 98, 105, 116]⟩, .string ⟨#[115, 97, 109, 101]⟩, .string ⟨#[109, 111, 118, 101]⟩, .string ⟨#[99, 108, 97, 115, 115, 101, 115]⟩, .string ⟨#[116, 121, 112, 101]⟩, .string ⟨#[112, 101, 98, 98, 108, 101, 115]⟩, .string ⟨#[99, 111, 108, 111, 117, 114, 115]⟩, .string ⟨#[98, 97, 108, 108, 115]⟩, .string ⟨#[110, 101, 97, 114]⟩, .string ⟨#[99, 111, 112, 105, 101, 115]⟩, .string ⟨#[111, 114, 100, 101, 114]⟩, .string ⟨#[99, 105, 114, 99, 108, 101]⟩, .string ⟨#[108, 101, 110, 103, 116, 104]⟩] 9))) := ⟨hD.below hb0, Off.of_below hb0, hB.trans (hb0.mono hB.size)⟩
  have HT := Lib.hid ht
  clear hB hD HA0 hb0 ht
  generalize itoS (k : Int) = t at *
  go_enter Tryz.func82, Tryz.ntmps82
  go_wp2_with fail
  refine (HCO.out _).mono ?_; rintro e w1 ⟨rfl, hw⟩; rw [hw]; clear hw w1
  go_wp2_with fail
  refine (HNO.out _ (HT.out.below HD.out.2.2 (Nat.le_refl _))).mono ?_; rintro e w2 ⟨rfl, hb⟩
  have HD2 : Hid (DeskAt w2 d a ∧ Off (fun x => x = d) W w2 ∧ Below w0.heap.size w0 w2) := ⟨HD.out.1.below hb, HD.out.2.1.trans (Off.of_below (F := fun _ => False) hb) (fun _ h => h.elim), HD.out.2.2.trans (hb.mono HD.out.2.2.size)⟩
  clear hb HD
  go_wp2_with fail
  refine (HA.out _ HD2.out.2.2 HD2.out.1).mono ?_; rintro e w3 ⟨rfl, hd3, ho3⟩
  have HD3 : Hid (DeskAt w3 d a ∧ Off (fun x => x = d) W w3) := ⟨hd3, HD2.out.2.1.trans ho3 (fun _ h => .inl h)⟩
  clear hd3 ho3
  go_wp2_with fail
  go_ret
  exact ⟨rfl, HD3.out⟩
set_option maxHeartbeats 1000000 in
theorem run_same (w0 : World) (ht : Tab w0) (a : DS) (k : Nat) (hk : k ≤ 9) (s : ByteArray) (HA0 : AskedOK w0 ⟨#[115, 97, 109, 101]⟩ k a s) : RunOK w0 (⟨#[115, 97, 109, 101]⟩ ++ ⟨#[32]⟩ ++ itoS (k : Int)) a a s := by
  intro W d hd hB hD
  have hz : (itoS (k : Int)).size = 1 := by rw [itoS_digit hk]; rfl
  have HCU := Lib.hid (fun w => cut_line ⟨#[115, 97, 109, 101]⟩ (itoS (k : Int)) (by decide) (by rw [ByteArray.size_append, ByteArray.size_append, hz]; decide) w)
  have HN := Lib.hid (fun W hB hD => numbered_same w0 ht a k hk s HA0 W d hd hB hD)
  have HD : Hid (DeskAt W d a ∧ Off (fun x => x = d) W W ∧ Below w0.heap.size w0 W) := ⟨hD, Off.of_below (Below.refl _ _), hB⟩
  clear hD hB HA0 hz
  generalize (⟨#[115, 97, 109, 101]⟩ : ByteArray) ++ ⟨#[32]⟩ ++ itoS (k : Int) = line at *
  generalize itoS (k : Int) = t at *
  go_enter Tryz.func34, Tryz.ntmps34
  go_wp2_with fail
  refine (HCU.out _).mono ?_; rintro e w1 ⟨rfl, hb⟩
  have HD1 : Hid (DeskAt w1 d a ∧ Off (fun x => x = d) W w1 ∧ Below w0.heap.size w0 w1) := ⟨HD.out.1.below hb, Off.of_below hb, HD.out.2.2.trans (hb.mono HD.out.2.2.size)⟩
  clear hb HD
  go_wp2_with fail
  refine (HN.out _ HD1.out.2.2 HD1.out.1).mono ?_; rintro e w2 ⟨rfl, hd2, ho2⟩
  have HD2 : Hid (DeskAt w2 d a ∧ Off (fun x => x = d) W w2) := ⟨hd2, HD1.out.2.1.trans ho2 (fun _ h => .inl h)⟩
  clear hd2 ho2
  go_wp2_with fail
  go_ret
  exact ⟨rfl, HD2.out⟩
set_option maxHeartbeats 1000000 in
theorem numbered_pebbles (w0 : World) (ht : Tab w0) (a : DS) (k : Nat) (hk : k ≤ 9) (s : ByteArray) (HA0 : AskedOK w0 ⟨#[112, 101, 98, 98, 108, 101, 115]⟩ k a s) (W : World) (d : Nat) (hd : w0.heap.size ≤ d) (hB : Below w0.heap.size w0 W) (hD : DeskAt W d a) :
    Calls Tryz.prog 82 #[.pointer (some ⟨d, 0, none⟩), .string ⟨#[112, 101, 98, 98, 108, 101, 115]⟩, .string (itoS (k : Int))] W fun e w' => e = .returned (.string s) ∧ DeskAt w' d a ∧ Off (fun x => x = d) W w' := by
  have HCO := Lib.hid (fun w => known_has ⟨#[112, 101, 98, 98, 108, 101, 115]⟩ (by decide) w)
  have HNO := Lib.hid (fun w ht => numberOf_digit k hk w ht)
  have HA := Lib.hid (fun W hB hD => HA0 W d hd hB hD)
  have hb0 : Below W.heap.size W (W.alloc (.cells #[.string ⟨#[99, 111, 117, 110, 116]⟩, .string ⟨#[111, 114, 98, 105, 116]⟩, .string ⟨#[115, 97, 109, 101]⟩, .string ⟨#[109, 111, 118, 101]⟩, .string ⟨#[99, 108, 97, 115, 115, 101, 115]⟩, .string ⟨#[116, 121, 112, 101]⟩, .string ⟨#[112, 101, 98, 98, 108, 101, 115]⟩, .string ⟨#[99, 111, 108, 111, 117, 114, 115]⟩, .string ⟨#[98, 97, 108, 108, 115]⟩, .string ⟨#[110, 101, 97, 114]⟩, .string ⟨#[99, 111, 112, 105, 101, 115]⟩, .string ⟨#[111, 114, 100, 101, 114]⟩, .string ⟨#[99, 105, 114, 99, 108, 101]⟩, .string ⟨#[108, 101, 110, 103, 116, 104]⟩] 9)) := (Below.refl _ _).alloc (Nat.le_refl _) _
  have HD : Hid (DeskAt (W.alloc (.cells #[.string ⟨#[99, 111, 117, 110, 116]⟩, .string ⟨#[111, 114, 98, 105, 116]⟩, .string ⟨#[115, 97, 109, 101]⟩, .string ⟨#[109, 111, 118, 101]⟩, .string ⟨#[99, 108, 97, 115, 115, 101, 115]⟩, .string ⟨#[116, 121, 112, 101]⟩, .string ⟨#[112, 101, 98, 98, 108, 101, 115]⟩, .string ⟨#[99, 111, 108, 111, 117, 114, 115]⟩, .string ⟨#[98, 97, 108, 108, 115]⟩, .string ⟨#[110, 101, 97, 114]⟩, .string ⟨#[99, 111, 112, 105, 101, 115]⟩, .string ⟨#[111, 114, 100, 101, 114]⟩, .string ⟨#[99, 105, 114, 99, 108, 101]⟩, .string ⟨#[108, 101, 110, 103, 116, 104]⟩] 9)) d a ∧ Off (fun x => x = d) W (W.alloc (.cells #[.string ⟨#[99, 111, 117, 110, 116]⟩, .string ⟨#[111, 114, 98, 105, 116]⟩, .string ⟨#[115, 97, 109, 101]⟩, .string ⟨#[109, 111, 118, 101]⟩, .string ⟨#[99, 108, 97, 115, 115, 101, 115]⟩, .string ⟨#[116, 121, 112, 101]⟩, .string ⟨#[112, 101, 98, 98, 108, 101, 115]⟩, .string ⟨#[99, 111, 108, 111, 117, 114, 115]⟩, .string ⟨#[98, 97, 108, 108, 115]⟩, .string ⟨#[110, 101, 97, 114]⟩, .string ⟨#[99, 111, 112, 105, 101, 115]⟩, .string ⟨#[111, 114, 100, 101, 114]⟩, .string ⟨#[99, 105, 114, 99, 108, 101]⟩, .string ⟨#[108, 101, 110, 103, 116, 104]⟩] 9)) ∧ Below w0.heap.size w0 (W.alloc (.cells #[.string ⟨#[99, 111, 117, 110, 116]⟩, .string ⟨#[111, 114, 98, 105, 116]⟩, .string ⟨#[115, 97, 109, 101]⟩, .string ⟨#[109, 111, 118, 101]⟩, .string ⟨#[99, 108, 97, 115, 115, 101, 115]⟩, .string ⟨#[116, 121, 112, 101]⟩, .string ⟨#[112, 101, 98, 98, 108, 101, 115]⟩, .string ⟨#[99, 111, 108, 111, 117, 114, 115]⟩, .string ⟨#[98, 97, 108, 108, 115]⟩, .string ⟨#[110, 101, 97, 114]⟩, .string ⟨#[99, 111, 112, 105, 101, 115]⟩, .string ⟨#[111, 114, 100, 101, 114]⟩, .string ⟨#[99, 105, 114, 99, 108, 101]⟩, .string ⟨#[108, 101, 110, 103, 116, 104]⟩] 9))) := ⟨hD.below hb0, Off.of_below hb0, hB.trans (hb0.mono hB.size)⟩
  have HT := Lib.hid ht
  clear hB hD HA0 hb0 ht
  generalize itoS (k : Int) = t at *
  go_enter Tryz.func82, Tryz.ntmps82
  go_wp2_with fail
  refine (HCO.out _).mono ?_; rintro e w1 ⟨rfl, hw⟩; rw [hw]; clear hw w1
  go_wp2_with fail
  refine (HNO.out _ (HT.out.below HD.out.2.2 (Nat.le_refl _))).mono ?_; rintro e w2 ⟨rfl, hb⟩
  have HD2 : Hid (DeskAt w2 d a ∧ Off (fun x => x = d) W w2 ∧ Below w0.heap.size w0 w2) := ⟨HD.out.1.below hb, HD.out.2.1.trans (Off.of_below (F := fun _ => False) hb) (fun _ h => h.elim), HD.out.2.2.trans (hb.mono HD.out.2.2.size)⟩
  clear hb HD
  go_wp2_with fail
  refine (HA.out _ HD2.out.2.2 HD2.out.1).mono ?_; rintro e w3 ⟨rfl, hd3, ho3⟩
  have HD3 : Hid (DeskAt w3 d a ∧ Off (fun x => x = d) W w3) := ⟨hd3, HD2.out.2.1.trans ho3 (fun _ h => .inl h)⟩
  clear hd3 ho3
  go_wp2_with fail
  go_ret
  exact ⟨rfl, HD3.out⟩
set_option maxHeartbeats 1000000 in
theorem run_pebbles (w0 : World) (ht : Tab w0) (a : DS) (k : Nat) (hk : k ≤ 9) (s : ByteArray) (HA0 : AskedOK w0 ⟨#[112, 101, 98, 98, 108, 101, 115]⟩ k a s) : RunOK w0 (⟨#[112, 101, 98, 98, 108, 101, 115]⟩ ++ ⟨#[32]⟩ ++ itoS (k : Int)) a a s := by
  intro W d hd hB hD
  have hz : (itoS (k : Int)).size = 1 := by rw [itoS_digit hk]; rfl
  have HCU := Lib.hid (fun w => cut_line ⟨#[112, 101, 98, 98, 108, 101, 115]⟩ (itoS (k : Int)) (by decide) (by rw [ByteArray.size_append, ByteArray.size_append, hz]; decide) w)
  have HN := Lib.hid (fun W hB hD => numbered_pebbles w0 ht a k hk s HA0 W d hd hB hD)
  have HD : Hid (DeskAt W d a ∧ Off (fun x => x = d) W W ∧ Below w0.heap.size w0 W) := ⟨hD, Off.of_below (Below.refl _ _), hB⟩
  clear hD hB HA0 hz
  generalize (⟨#[112, 101, 98, 98, 108, 101, 115]⟩ : ByteArray) ++ ⟨#[32]⟩ ++ itoS (k : Int) = line at *
  generalize itoS (k : Int) = t at *
  go_enter Tryz.func34, Tryz.ntmps34
  go_wp2_with fail
  refine (HCU.out _).mono ?_; rintro e w1 ⟨rfl, hb⟩
  have HD1 : Hid (DeskAt w1 d a ∧ Off (fun x => x = d) W w1 ∧ Below w0.heap.size w0 w1) := ⟨HD.out.1.below hb, Off.of_below hb, HD.out.2.2.trans (hb.mono HD.out.2.2.size)⟩
  clear hb HD
  go_wp2_with fail
  refine (HN.out _ HD1.out.2.2 HD1.out.1).mono ?_; rintro e w2 ⟨rfl, hd2, ho2⟩
  have HD2 : Hid (DeskAt w2 d a ∧ Off (fun x => x = d) W w2) := ⟨hd2, HD1.out.2.1.trans ho2 (fun _ h => .inl h)⟩
  clear hd2 ho2
  go_wp2_with fail
  go_ret
  exact ⟨rfl, HD2.out⟩
end Go.Proofs.YtofmagiahmmmgaaGreatDoor
