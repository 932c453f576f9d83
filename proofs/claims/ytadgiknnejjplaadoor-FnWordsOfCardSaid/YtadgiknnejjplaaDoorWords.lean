/- All words of at most so many letters: plainly, and the program's wordsUpTo. Condition: at most eight letters. -/
import Derived.Test.YtadgiknnejjplaaDoorTexts
namespace Go.Proofs.YtadgiknnejjplaaDoor
open Go.RowKit
set_option linter.unusedVariables false

/-- All words of so many letters. -/
def allW : Nat → List ByteArray
  | 0 => [ByteArray.empty]
  | n + 1 => (allW n).flatMap fun u => [u ++ ⟨#[120]⟩, u ++ ⟨#[121]⟩]
/-- All words of at most so many letters, shorter ones first. -/
def upTo : Nat → List ByteArray
  | 0 => []
  | n + 1 => upTo n ++ allW (n + 1)
theorem allW_size : ∀ (n : Nat) (u : ByteArray), u ∈ allW n → u.size = n
  | 0, u, h => by simp [allW] at h; subst h; rfl
  | n + 1, u, h => by
    obtain ⟨x, hx, hu⟩ := List.mem_flatMap.1 h
    have := allW_size n x hx
    simp at hu
    rcases hu with rfl | rfl <;> (rw [ByteArray.size_append, this]; rfl)
theorem flat2_length {α : Type} (f g : α → ByteArray) (l : List α) : (l.flatMap fun u => [f u, g u]).length = 2 * l.length := by
  induction l with
  | nil => rfl
  | cons x l ih => simp only [List.flatMap_cons, List.length_append, List.length_cons, List.length_nil, ih]; omega
theorem allW_length : ∀ n, (allW n).length = 2 ^ n
  | 0 => rfl
  | n + 1 => by rw [allW, flat2_length, allW_length n, Nat.pow_succ]; omega
theorem upTo_length : ∀ n, (upTo n).length + 2 = 2 ^ (n + 1)
  | 0 => rfl
  | n + 1 => by
    have := upTo_length n
    rw [upTo, List.length_append, allW_length, Nat.pow_succ _ (n + 1)]
    omega
theorem upTo_size : ∀ (n : Nat) (u : ByteArray), u ∈ upTo n → 1 ≤ u.size ∧ u.size ≤ n
  | 0, u, h => by cases h
  | n + 1, u, h => by
    rcases List.mem_append.1 h with h | h
    · have := upTo_size n u h; omega
    · have := allW_size (n + 1) u h; omega
theorem pow_8 {n : Nat} (h : n ≤ 8) : 2 ^ n ≤ 256 := Nat.pow_le_pow_right (by decide) h

theorem TextsAt.two (w : World) (x y : ByteArray) : TextsAt (w.alloc (.cells #[.string x, .string y] 9)) (.slice (some ⟨w.heap.size, 0, none⟩) 2 2) [x, y] := by
  refine .inr ⟨w.heap.size, 0, 2, rfl, Nat.le_refl _, by decide, by simp, fun j hj => ?_⟩
  have hj2 : j = 0 ∨ j = 1 := by simp at hj; omega
  rcases hj2 with rfl | rfl <;> simp
theorem TextsAt.one (w : World) (x : ByteArray) : TextsAt (w.alloc (.cells #[.string x] 9)) (.slice (some ⟨w.heap.size, 0, none⟩) 1 1) [x] := by
  refine .inr ⟨w.heap.size, 0, 1, rfl, Nat.le_refl _, by decide, by simp, fun j hj => ?_⟩
  have hj2 : j = 0 := by simpa using hj
  subst hj2; simp
theorem OwnS.block {B : Nat} {w : World} {v : Value} {L : List ByteArray} (h : OwnS B w v L) : ∃ k, v.ownBlock = some k ∧ B ≤ k ∧ k < w.heap.size := by
  obtain ⟨g, cap, rfl, h1, h2, _⟩ := h.cells
  exact ⟨g, rfl, h1, h2⟩
theorem OwnS.grown {B : Nat} {w w' : World} {v v2 : Value} {L : List ByteArray} (h : OwnS B w v L) (hg : w.grownBy w' v2.ownBlock) (hne : v.ownBlock ≠ v2.ownBlock) : OwnS B w' v L :=
  h.kept (fun k hk hl => hg.block k hl (by rw [← hk]; exact hne)) hg.size
theorem OwnS.lit (B : Nat) (w : World) (b : Nat) (hb : w.heap.size = b) (hB : B ≤ w.heap.size) : OwnS B (w.alloc (.cells #[] 9)) (.slice (some ⟨b, 0, none⟩) 0 0) [] := by
  subst hb
  exact OwnS.lit0 B w hB

/-- What a function leaves that returns a new list of texts. -/
def NewTexts (w : World) (L : List ByteArray) (e : Ending) (w' : World) : Prop := ∃ v, e = .returned v ∧ OwnS w.heap.size w' v L ∧ Below w.heap.size w w'

/-- What the outer loop keeps. -/
structure Wu (w wr : World) (i : Nat) (vo vl : Value) : Prop where
  out : OwnS w.heap.size wr vo (upTo i)
  last : OwnS w.heap.size wr vl (allW i)
  ne : vo.ownBlock ≠ vl.ownBlock
  old : Below w.heap.size w wr
/-- What the inner loop keeps. -/
structure Wu2 (w wr : World) (i j : Nat) (vo vl vn : Value) : Prop where
  out : OwnS w.heap.size wr vo (upTo i)
  last : OwnS w.heap.size wr vl (allW i)
  next : OwnS w.heap.size wr vn (((allW i).take j).flatMap fun u => [u ++ ⟨#[120]⟩, u ++ ⟨#[121]⟩])
  ne : vo.ownBlock ≠ vl.ownBlock
  ne1 : vn.ownBlock ≠ vo.ownBlock
  ne2 : vn.ownBlock ≠ vl.ownBlock
  old : Below w.heap.size w wr
theorem Wu2.step {w wr w' : World} {i j : Nat} {vo vl vn vn' : Value} {o : Obj} (h : Wu2 w wr i j vo vl vn) (hj : j < (allW i).length)
    (hown : OwnS w.heap.size w' vn' ((((allW i).take j).flatMap fun u => [u ++ ⟨#[120]⟩, u ++ ⟨#[121]⟩]) ++ [(allW i).getD j ByteArray.empty ++ ⟨#[120]⟩, (allW i).getD j ByteArray.empty ++ ⟨#[121]⟩]))
    (hg : (wr.alloc o).grownBy w' vn.ownBlock) (hat : vn'.ownBlock = vn.ownBlock ∨ ∃ k, vn'.ownBlock = some k ∧ (wr.alloc o).heap.size ≤ k) : Wu2 w w' i (j + 1) vo vl vn' := by
  obtain ⟨k1, e1, _, l1⟩ := h.out.block
  obtain ⟨k2, e2, _, l2⟩ := h.last.block
  have hs : (wr.alloc o).heap.size = wr.heap.size + 1 := by simp
  have hw := h.old.size
  have al : Below wr.heap.size wr (wr.alloc o) := (Below.refl _ _).alloc (Nat.le_refl _) _
  refine ⟨(h.out.below al).grown hg (Ne.symm h.ne1), (h.last.below al).grown hg (Ne.symm h.ne2), ?_, h.ne, ?_, ?_, ?_⟩
  · rw [List.take_succ_eq_append_getElem hj, List.flatMap_append]
    simpa [hj] using hown
  · rcases hat with h1 | ⟨k, h1, h2⟩
    · rw [h1]; exact h.ne1
    · rw [h1, e1]
      intro e
      have := Option.some.inj e
      omega
  · rcases hat with h1 | ⟨k, h1, h2⟩
    · rw [h1]; exact h.ne2
    · rw [h1, e2]
      intro e
      have := Option.some.inj e
      omega
  · refine (h.old.alloc hw _).grown hg (by omega) fun k hk => ?_
    obtain ⟨k3, e3, l3, _⟩ := h.next.block
    rw [e3] at hk
    obtain rfl := Option.some.inj hk
    exact l3

theorem wu_end {w wr w' : World} {i j : Nat} {vo vl vn vo' : Value} (h : Wu2 w wr i j vo vl vn) (hn : OwnS w.heap.size wr vn (allW (i + 1))) (hown : OwnS w.heap.size w' vo' (upTo i ++ allW (i + 1))) (hg : wr.grownBy w' vo.ownBlock)
    (hat : vo'.ownBlock = vo.ownBlock ∨ ∃ k, vo'.ownBlock = some k ∧ wr.heap.size ≤ k) : Wu w w' (i + 1) vo' vn := by
  obtain ⟨k3, e3, _, l3⟩ := hn.block
  refine ⟨hown, hn.grown hg h.ne1, ?_, h.old.grown hg h.old.size fun k hk => ?_⟩
  · rcases hat with h1 | ⟨k, h1, h2⟩
    · rw [h1]; exact Ne.symm h.ne1
    · rw [h1, e3]
      intro e
      have := Option.some.inj e
      omega
  · obtain ⟨k1, e1, l1, _⟩ := h.out.block
    rw [e1] at hk
    obtain rfl := Option.some.inj hk
    exact l1

set_option maxRecDepth 100000 in
set_option maxHeartbeats 1000000 in
theorem wordsUpTo_any (n : Nat) (w : World) (hn : n ≤ 8) : Calls Tryd.prog 95 #[.int .i64 (n : Int)] w (NewTexts w (upTo n)) := by
  have HS0 : Hid (Wu w ((w.alloc (.cells #[] 9)).alloc (.cells #[.string ByteArray.empty] 9)) 0 (.slice (some ⟨w.heap.size, 0, none⟩) 0 0) (.slice (some ⟨w.heap.size + 1, 0, none⟩) 1 1)) := by
    refine ⟨?_, ?_, ?_, ((Below.refl _ _).alloc (Nat.le_refl _) _).alloc (by simp) _⟩
    · exact (OwnS.lit w.heap.size w _ rfl (Nat.le_refl _)).alloc _
    · refine ⟨⟨by simp [allW], .inr ⟨w.heap.size + 1, 1, #[.string ByteArray.empty], rfl, by omega, ?_, by simp [allW], by decide, rfl, by simp [allW]⟩⟩, by simp, by simp; omega⟩
      have := heap_alloc_new (w.alloc (.cells #[] 9)) (.cells #[.string ByteArray.empty] 9)
      simpa using this
    · intro e
      have := Option.some.inj e
      simp at this
  go_enter Tryd.func95, Tryd.ntmps95
  go_wp2_with fail
  go_loopw [11, 3, 4] (fun q vo vl wr => ∃ i : Nat, i ≤ n ∧ q = .int .i64 i ∧ Hid (Wu w wr i vo vl)) (fun q _ _ _ => n - (intOf q).toNat)
  case atStart => exact ⟨0, by omega, rfl, HS0.out⟩
  case round =>
    obtain ⟨i, hi, rfl, HW⟩ := hrel
    by_cases hlt : i < n
    · have h256 := pow_8 (show i ≤ 8 by omega)
      have HLEN := Lib.hid (allW_length i)
      have HSZ := Lib.hid (allW_size i)
      have hl256 : (allW i).length ≤ 256 := by rw [HLEN.out]; exact h256
      have HL9 : Hid (∀ j, j ≤ 256 → ((((allW i).take j).flatMap fun u => [u ++ (⟨#[120]⟩ : ByteArray), u ++ ⟨#[121]⟩]).length + 2 ≤ 2000000)) := fun j hj => by
        rw [flat2_length, List.length_take]; omega
      have HUL := Lib.hid (upTo_length i)
      have h512 : 2 ^ (i + 1) ≤ 256 := pow_8 (show i + 1 ≤ 8 by omega)
      have HU9 : Hid ((upTo i).length + (allW (i + 1)).length ≤ 2000000) := by
        have h1 := HUL.out
        show _ ≤ _
        rw [allW_length]
        omega
      clear h256 h512
      obtain ⟨g, cap, rfl, hg1, hg2, hc1, hc2, hcell⟩ := HW.out.last.cells
      unfold maxLen at hc2
      have HC := Lib.hid hcell
      have HS2 : Hid (Wu2 w (wr.alloc (.cells #[] 9)) i 0 u3 (.slice (some ⟨g, 0, none⟩) (allW i).length cap) (.slice (some ⟨wr.heap.size, 0, none⟩) 0 0)) := by
        have al : Below wr.heap.size wr (wr.alloc (.cells #[] 9)) := (Below.refl _ _).alloc (Nat.le_refl _) _
        obtain ⟨k1, e1, _, l1⟩ := HW.out.out.block
        have hw := HW.out.old.size
        refine ⟨HW.out.out.below al, HW.out.last.below al, OwnS.lit0 _ _ hw, HW.out.ne, ?_, ?_, HW.out.old.alloc hw _⟩
        · rw [e1]; intro e; have e : wr.heap.size = k1 := Option.some.inj e; omega
        · intro e; have e : wr.heap.size = g := Option.some.inj e; omega
      clear hcell
      obtain ⟨wo, rfl⟩ : ∃ wo : World, wo = wr := ⟨_, rfl⟩
      go_wp2_with fail
      go_loopw [16, 5] (fun q vn wr => ∃ j : Nat, j ≤ (allW i).length ∧ q = .int .i64 j ∧ Hid (Wu2 w wr i j u3 (.slice (some ⟨g, 0, none⟩) (allW i).length cap) vn)) (fun q _ _ => (allW i).length - (intOf q).toNat)
      case atStart => exact ⟨0, by omega, rfl, HS2.out⟩
      case round =>
        obtain ⟨j, hj, rfl, HW2⟩ := hrel
        by_cases hlt2 : j < (allW i).length
        · obtain ⟨g2, cap2, hv2, _, _, _, _, hcell2⟩ := HW2.out.last.cells
          have d1 : wr.cell? ⟨g, j, none⟩ = some (.string ((allW i).getD j ByteArray.empty)) := by
            injection hv2 with h1 h2 h3
            injection h1 with h1
            injection h1 with h1
            subst h1
            exact hcell2 j hlt2
          have hz := HSZ.out ((allW i).getD j ByteArray.empty) (by simp [hlt2])
          have HSTEP := Lib.hid (fun w' vn' o h1 h2 h3 => HW2.out.step (w' := w') (vn' := vn') (o := o) hlt2 h1 h2 h3)
          have HLL := Lib.hid (HL9.out j (by omega))
          clear hv2 hcell2
          generalize (allW i).getD j ByteArray.empty = x at *
          go_wp2_with (first | (at_builtin; refine wpList_ownSAll (M := [x ++ ⟨#[120]⟩, x ++ ⟨#[121]⟩]) (HW2.out.next.below ((Below.refl _ _).alloc (Nat.le_refl _) _)) (TextsAt.two wr (x ++ ⟨#[120]⟩) (x ++ ⟨#[121]⟩)) HLL.out rfl (.tmp 20) (.tmp 25) rfl rfl rfl ?_; intro v' w' ho hg hat; have HW3 := Lib.hid (HSTEP.out w' v' _ ho hg hat); clear ho hg hat) | fail)
          go_roundw
          case rel => exact ⟨j + 1, by omega, by go_num, HW3.out⟩
          case measure => simp [intOf]; omega
        · have hjl : j = (allW i).length := by omega
          have HN : Hid (OwnS w.heap.size wr u5 (allW (i + 1))) := by
            have h := HW2.out.next
            rw [List.take_of_length_le (by omega)] at h
            exact h
          clear hjl
          go_wp2_with (first | (at_builtin; refine wpList_ownSAll HW2.out.out HN.out.texts HU9.out rfl (.tmp 28) (.tmp 29) rfl rfl rfl ?_; intro v' w' ho hg hat; have HW3 : Hid (Wu w w' (i + 1) v' u5) := (wu_end HW2.out HN.out ho hg hat); clear ho hg hat) | fail)
          go_roundw
          case rel => exact ⟨i + 1, by omega, by go_num, HW3.out⟩
          case measure => simp [intOf]; omega
    · have hin : i = n := by omega
      subst hin
      go_wp2_with fail
      go_ret
      exact ⟨_, rfl, HW.out.out, HW.out.old⟩
end Go.Proofs.YtadgiknnejjplaaDoor
