/- The laws' marks: markText, eqStringS, markStringS, heldStringS. Conditions: the lists lie in memory and are not long. -/
import Derived.Test.YtagnikcnakdehaaDoorTexts
import Derived.Test.YtagnikcnakdehaaDoorDec
import Derived.Test.YtagnikcnakdehaaDoorSince
import Derived.Test.YtagnikcnakdehaaDoorClassS4
namespace Go.Proofs.YtagnikcnakdehaaDoor
open Go.RowKit
set_option linter.unusedVariables false

/-- The mark of a number. -/
def markS (k : Nat) : ByteArray := ⟨#[109]⟩ ++ decS k
/-- The numeral, nothing for 0. -/
def decE (t : Nat) : ByteArray := if t = 0 then ByteArray.empty else decS t
theorem decE_step (t : Nat) (h : 0 < t) : decE t = decE (t / 10) ++ digS (t % 10) := by
  unfold decE
  rw [if_neg (by omega)]
  by_cases h10 : t < 10
  · rw [if_pos (by omega), decS_small t h10, Nat.mod_eq_of_lt h10]
    apply ByteArray.ext
    simp
  · rw [if_neg (by omega), decS_big t h10]

theorem OwnS.set {B g cap : Nat} {w : World} {L : List ByteArray} (h : OwnS B w (.slice (some ⟨g, 0, none⟩) L.length cap) L) (k : Nat) (x : ByteArray) :
    OwnS B (w.setCell ⟨g, k, none⟩ (.string x)) (.slice (some ⟨g, 0, none⟩) L.length cap) (L.set k x) := by
  have h1 := (h.own.stored k (.string x)).1
  refine ⟨?_, h.ne, by simpa [World.setCell] using h.low⟩
  rw [List.length_set, List.map_set]
  exact h1
theorem OwnS.frozen {B g cap : Nat} {w : World} {L : List ByteArray} (h : OwnS B w (.slice (some ⟨g, 0, none⟩) L.length cap) L) (k : Nat) : w.frozen? ⟨g, k, none⟩ = false := h.own.frozenAt k

/-- The slice is the call's own, of n texts; the first j are the marks from k on. -/
def MarkInv (w : World) (B g n cap k j : Nat) (wr : World) : Prop :=
  B ≤ g ∧ Below B w wr ∧ ∃ M : List ByteArray, M.length = n ∧ OwnS B wr (.slice (some ⟨g, 0, none⟩) n cap) M ∧ ∀ i, i < j → M.getD i ByteArray.empty = markS (k + i)
theorem MarkInv.below {w wr w2 : World} {B g n cap k j : Nat} (h : MarkInv w B g n cap k j wr) (hb : Below wr.heap.size wr w2) : MarkInv w B g n cap k j w2 := by
  obtain ⟨h1, h2, M, h3, h4, h5⟩ := h
  exact ⟨h1, h2.trans (hb.mono (Nat.le_trans h4.low (Nat.le_refl _))), M, h3, h4.below hb, h5⟩
theorem MarkInv.cell {w wr : World} {B g n cap k j : Nat} (h : MarkInv w B g n cap k j wr) (hj : j < n) :
    ∃ u, wr.cell? ⟨g, j, none⟩ = some u ∧ wr.frozen? ⟨g, j, none⟩ = false := by
  obtain ⟨h1, h2, M, rfl, h4, h5⟩ := h
  have e := h4.own.cellAt j (by omega)
  rw [List.getElem?_map, List.getElem?_eq_getElem hj] at e
  exact ⟨_, e, h4.frozen j⟩
theorem MarkInv.store {w wr : World} {B g n cap k j : Nat} (h : MarkInv w B g n cap k j wr) (hj : j < n) :
    MarkInv w B g n cap k (j + 1) (wr.setCell ⟨g, j, none⟩ (.string (markS (k + j)))) := by
  obtain ⟨h1, h2, M, rfl, h4, h5⟩ := h
  refine ⟨h1, h2.setCell h1 _, M.set j (markS (k + j)), by simp, h4.set j _, fun i hi => ?_⟩
  rw [List.getD_eq_getElem?_getD, List.getElem?_set]
  by_cases e : j = i
  · subst e; rw [if_pos rfl, if_pos hj]; rfl
  · rw [if_neg e, ← List.getD_eq_getElem?_getD]; exact h5 i (by omega)

end Go.Proofs.YtagnikcnakdehaaDoor
/- WordClasses of the program and of the reference, and the walk of the law FnExactWordClasses. Conditions: none. -/
namespace Go.Proofs.YtagnikcnakdehaaDoor
open Go.RowKit
set_option linter.unusedVariables false

/-- A slice of texts that is nil, or the call's own. -/
def OwnT (B : Nat) (w : World) (v : Value) (L : List ByteArray) : Prop := (v = .slice none 0 0 ∧ L = []) ∨ OwnS B w v L
theorem OwnT.texts {B : Nat} {w : World} {v : Value} {L : List ByteArray} (h : OwnT B w v L) : TextsAt w v L := by
  rcases h with ⟨rfl, rfl⟩ | h
  · exact TextsAt.nil w
  · exact h.texts
theorem OwnT.below {B : Nat} {w w' : World} {v : Value} {L : List ByteArray} (h : OwnT B w v L) (hb : Below w.heap.size w w') : OwnT B w' v L := by
  rcases h with h | h
  · exact .inl h
  · exact .inr (h.below hb)
/-- What a function leaves that returns a list of texts of its own, or nil. -/
def NewT (w : World) (L : List ByteArray) (e : Ending) (w' : World) : Prop := ∃ v, e = .returned v ∧ OwnT w.heap.size w' v L ∧ Below w.heap.size w w'

/-- What WordClasses returns. -/
def clsRes (n K : Int) : List ByteArray := if inB n 0 5 && inB K 0 2 then clsL K.toNat (upTo n.toNat) else []
theorem clsRes_length (n K : Int) : (clsRes n K).length ≤ 62 := by
  unfold clsRes
  split
  · rename_i h
    simp only [Bool.and_eq_true, inB_iff] at h
    have h1 := clsL_length K.toNat _ (upTo n.toNat) rfl
    have h2 := upTo_length n.toNat
    have h3 : 2 ^ (n.toNat + 1) ≤ 2 ^ 6 := Nat.pow_le_pow_right (by decide) (by omega)
    omega
  · simp
theorem implClasses_any (n K : Int) (w : World) : Calls Tryd.prog 22 #[.int .i64 n, .int .i64 K] w (NewT w (clsRes n K)) := by
  by_cases h : inB n 0 5 = true ∧ inB K 0 2 = true
  · obtain ⟨h1, h2⟩ := h
    have e : clsRes n K = clsL K.toNat (upTo n.toNat) := by unfold clsRes; rw [h1, h2]; rfl
    rw [e]
    have h3 := inB_iff.1 h1
    have h4 := inB_iff.1 h2
    obtain ⟨m, rfl⟩ := Int.eq_ofNat_of_zero_le h3.1
    obtain ⟨k, rfl⟩ := Int.eq_ofNat_of_zero_le h4.1
    refine (implClasses_yes m k w (by omega) (by omega)).mono ?_
    rintro e w' ⟨v, he, hv, hb⟩
    exact ⟨v, he, .inr (by simpa using hv), hb⟩
  · have e : clsRes n K = [] := by unfold clsRes; rw [if_neg]; simpa using h
    rw [e]
    rw [inB_iff, inB_iff] at h
    have HP : Hid (NewT w [] (.returned (.slice none 0 0)) w) := ⟨_, rfl, .inl ⟨rfl, rfl⟩, Below.refl _ _⟩
    by_cases h1 : n < 0
    · go_enter Tryd.func22, Tryd.ntmps22
      go_wp2_with fail
      go_ret
      exact HP.out
    · by_cases h2 : 5 < n
      · go_enter Tryd.func22, Tryd.ntmps22
        go_wp2_with fail
        go_ret
        exact HP.out
      · by_cases h3 : K < 0
        · go_enter Tryd.func22, Tryd.ntmps22
          go_wp2_with fail
          go_ret
          exact HP.out
        · have h4 : 2 < K := by omega
          go_enter Tryd.func22, Tryd.ntmps22
          go_wp2_with fail
          go_ret
          exact HP.out
set_option maxHeartbeats 1000000 in
theorem specClasses_any (n K : Int) (w : World) : Calls Tryd.prog 23 #[.int .i64 n, .int .i64 K] w (NewT w (clsRes n K)) := by
  cases h1 : inB n 0 5
  · have HK := Lib.hid (fun w => l1In_any n 0 5 w)
    rw [h1] at HK
    have HE : Hid (NewT w [] (.returned (.slice (some ⟨w.heap.size, 0, none⟩) 0 0)) (w.alloc (.cells #[] 9))) := ⟨_, rfl, .inr (OwnS.lit0 _ w (Nat.le_refl _)), (Below.refl _ _).alloc (Nat.le_refl _) _⟩
    have e : clsRes n K = [] := by unfold clsRes; rw [h1]; rfl
    rw [e]
    clear h1
    go_enter Tryd.func23, Tryd.ntmps23
    go_wp2_with fail
    refine (HK.out _).mono ?_; rintro e w' ⟨rfl, rfl⟩
    go_wp2_with fail
    go_ret
    exact HE.out
  · cases h2 : inB K 0 2
    · have HK := Lib.hid (fun w => l1In_any n 0 5 w)
      have HK2 := Lib.hid (fun w => l1In_any K 0 2 w)
      rw [h1] at HK
      rw [h2] at HK2
      have HE : Hid (NewT w [] (.returned (.slice (some ⟨w.heap.size, 0, none⟩) 0 0)) (w.alloc (.cells #[] 9))) := ⟨_, rfl, .inr (OwnS.lit0 _ w (Nat.le_refl _)), (Below.refl _ _).alloc (Nat.le_refl _) _⟩
      have e : clsRes n K = [] := by unfold clsRes; rw [h1, h2]; rfl
      rw [e]
      clear h1 h2
      go_enter Tryd.func23, Tryd.ntmps23
      go_wp2_with fail
      refine (HK.out _).mono ?_; rintro e w' ⟨rfl, rfl⟩
      go_wp2_with fail
      refine (HK2.out _).mono ?_; rintro e w' ⟨rfl, rfl⟩
      go_wp2_with fail
      go_ret
      exact HE.out
    · have HK := Lib.hid (fun w => l1In_any n 0 5 w)
      have HK2 := Lib.hid (fun w => l1In_any K 0 2 w)
      rw [h1] at HK
      rw [h2] at HK2
      have e : clsRes n K = clsL K.toNat (upTo n.toNat) := by unfold clsRes; rw [h1, h2]; rfl
      rw [e]
      have h3 := inB_iff.1 h1
      have h4 := inB_iff.1 h2
      obtain ⟨m, rfl⟩ := Int.eq_ofNat_of_zero_le h3.1
      obtain ⟨k, rfl⟩ := Int.eq_ofNat_of_zero_le h4.1
      rw [Int.toNat_natCast, Int.toNat_natCast]
      have hm : m ≤ 8 := by omega
      have hk : k ≤ 2 := by omega
      clear h1 h2 h3 h4 e
      go_enter Tryd.func23, Tryd.ntmps23
      go_wp2_with fail
      refine (HK.out _).mono ?_; rintro e w' ⟨rfl, rfl⟩
      go_wp2_with fail
      refine (HK2.out _).mono ?_; rintro e w' ⟨rfl, rfl⟩
      go_wp2_with fail
      refine (l5New_any _).mono ?_; rintro e w1 ⟨gL, gC, F0, vs0, rfl, ht, hb, hF⟩
      have HTB := Lib.hid ht
      have HFF := Lib.hid hF
      have HB1 := Lib.hid hb
      clear ht hb hF
      go_wp2_with fail
      refine (l12Classes_any m k gL gC F0 vs0 [] w1 hm hk HTB.out (by simp)).mono ?_; rintro e w2 ⟨v, u, T, F, vs, E, rfl, hc⟩
      have HP : Hid (NewT w (clsL k (upTo m)) (.returned v) w2) := by
        refine ⟨v, rfl, .inr ⟨⟨hc.mem.words.own.1, ?_⟩, hc.mem.words.ne, ?_⟩, ?_⟩
        · rcases hc.mem.words.own.2 with h1 | ⟨g, cap, cur, h1, h2, h3⟩
          · exact .inl h1
          · exact .inr ⟨g, cap, cur, h1, Nat.le_trans HB1.out.size h2, h3⟩
        · exact Nat.le_trans HB1.out.size hc.mem.words.low
        · exact HB1.out.trans (hc.mem.old.below HB1.out.size HFF.out)
      clear hc
      go_wp2_with fail
      go_ret
      exact HP.out

end Go.Proofs.YtagnikcnakdehaaDoor
