/- Contracts of the program's functions and what they compute: part 24. Conditions: those that each theorem states. -/
import Derived.Test.YthmhjihppbeodaaGreatDoorP7n16
import Derived.Test.YthmhjihppbeodaaGreatDoorP7n17
import Derived.Test.YthmhjihppbeodaaGreatDoorP7n21
import Derived.Test.YthmhjihppbeodaaGreatDoorP7n23
import Derived.Test.YthmhjihppbeodaaGreatDoorP7n8
import Derived.Test.YthmhjihppbeodaaGreatDoorP7n14
import Derived.Test.YthmhjihppbeodaaGreatDoorP7n19
import Derived.Deep.RegionLaw
import Derived.Deep.DeepCutAuto
import Derived.Deep.CutBlock
import Derived.Deep.AppendLies
namespace Go.Proofs.YthmhjihppbeodaaGreatDoor
open Go.RowKit
set_option linter.unusedVariables false
set_option maxRecDepth 100000
theorem playP_ok {a b : Gs.St} : ∀ (ps : List ByteArray) (la lb A B : List Nat) (c : Bool), (∀ p ∈ ps, okPc a.n b.n p = true) → playP a b ps la lb = (A, B, c) → (∀ z ∈ la, z < a.n) → (∀ z ∈ lb, z < b.n) →
    A.length ≤ la.length + ps.length ∧ B.length ≤ lb.length + ps.length ∧ (∀ z ∈ A, z < a.n) ∧ (∀ z ∈ B, z < b.n)
  | [], la, lb, A, B, c, _, h, ha, hb => by
    injection h with h1 h2
    injection h2 with h2 h3
    subst h1; subst h2
    exact ⟨by simp, by simp, ha, hb⟩
  | p :: ps, la, lb, A, B, c, hp, h, ha, hb => by
    obtain ⟨x, y, rfl, hm⟩ := okPc_parts (hp p (by simp))
    have hps := fun q hq => hp q (List.mem_cons_of_mem _ hq)
    rcases okMv_parts hm with ⟨hx, h48, hlt⟩ | ⟨hx, h48, hlt⟩
    · rw [playP_a hx] at h
      cases hbe : bestB a la b lb ps.length (y.toNat - 48) with
      | none =>
        rw [hbe] at h
        injection h with h1 h2
        injection h2 with h2 h3
        subst h1; subst h2
        exact ⟨by simp, by simp, mem_snoc ha hlt, hb⟩
      | some z =>
        rw [hbe] at h
        have ih := playP_ok ps _ _ A B c hps h (mem_snoc ha hlt) (mem_snoc hb (bestB_some hbe).1)
        simp only [List.length_append, List.length_cons, List.length_nil] at ih ⊢
        exact ⟨by omega, by omega, ih.2.2⟩
    · rw [playP_b hx] at h
      cases hbe : bestB b lb a la ps.length (y.toNat - 48) with
      | none =>
        rw [hbe] at h
        injection h with h1 h2
        injection h2 with h2 h3
        subst h1; subst h2
        exact ⟨by simp, by simp, ha, mem_snoc hb hlt⟩
      | some z =>
        rw [hbe] at h
        have ih := playP_ok ps _ _ A B c hps h (mem_snoc ha (bestB_some hbe).1) (mem_snoc hb hlt)
        simp only [List.length_append, List.length_cons, List.length_nil] at ih ⊢
        exact ⟨by omega, by omega, ih.2.2⟩
/-- What a game's line answers. -/
def plB (A B : List Nat) (t : ByteArray) : ByteArray := numsB A ++ ⟨#[32, 47, 32]⟩ ++ numsB B ++ ⟨#[32, 47, 32]⟩ ++ t
theorem nums_le {A : List Nat} {n : Nat} (h : ∀ z ∈ A, z < n) (hn : n ≤ 8) : ∀ x ∈ A, x ≤ 1000000 := fun x hx => by have := h x hx; omega
set_option maxHeartbeats 2000000 in
theorem run_play (w0 : World) (ht : Tab w0) (hsp : TabSp w0) (a : DS) (n m : Nat) (s : ByteArray) (hn : a.n = (n : Int)) (hm : a.m = (m : Int)) (hv : validB n a.S a.R = true) (hu : validB m a.T a.U = true) (hok : okMs n m s = true) (hs : s.size ≤ 900) (A0 B0 : List Nat) (c0 : Bool)
    (hE : playP (stOf n a.S a.R) (stOf m a.T a.U) (mvsOf s) [] [] = (A0, B0, c0)) : RunOK w0 (⟨#[112, 108, 97, 121]⟩ ++ ⟨#[32]⟩ ++ s) a a (plB A0 B0 (endB c0)) := by
  intro W d hd hB hD
  obtain ⟨h1, h8, _, _, _, _⟩ := valid_is hv
  obtain ⟨g1, g8, _, _, _, _⟩ := valid_is hu
  obtain ⟨hm3, hmo⟩ := moves_ok hok
  obtain ⟨b1, b2, b3, b4⟩ := playP_ok (a := stOf n a.S a.R) (b := stOf m a.T a.U) _ _ _ A0 B0 c0 hmo hE (by simp) (by simp)
  have hA := nums_le b3 h8
  have hBn := nums_le b4 g8
  have zA := numsB_size A0 hA
  have zB := numsB_size B0 hBn
  have hA3 : A0.length ≤ 3 := by simp at b1; omega
  have hB3 : B0.length ≤ 3 := by simp at b2; omega
  have HCU := Lib.hid (fun w => cut_line ⟨#[112, 108, 97, 121]⟩ s (by decide) (by rw [ByteArray.size_append, ByteArray.size_append]; show 4 + 1 + _ ≤ _; omega) w)
  have HMV := Lib.hid (fun w => areMoves_any n m a.S a.R a.T a.U s h8 g8 hs w)
  rw [hok] at HMV
  have HPG := Lib.hid (fun w h => PlayGame_any n a.S a.R m a.T a.U s w hv hu hok hs h A0 B0 c0 hE)
  have HFA := Lib.hid (fun v w hv ht => implFmt_nums v A0 w hv (by omega) hA ht)
  have HFB := Lib.hid (fun v w hv ht => implFmt_nums v B0 w hv (by omega) hBn ht)
  rw [← hn, ← hm] at HMV HPG
  unfold strV at HMV HPG
  have HT : Hid (∀ w', Below w0.heap.size w0 w' → Tab w') := fun w' h => ht.below h (Nat.le_refl _)
  have HTS : Hid (∀ w', Below w0.heap.size w0 w' → TabSp w') := fun w' h => hsp.below h (Nat.le_refl _)
  have HD : Hid (DeskAt W d a ∧ Off (fun x => x = d) W W ∧ Below w0.heap.size w0 W) := ⟨hD, Off.of_below (Below.refl _ _), hB⟩
  obtain ⟨E, hEn⟩ : ∃ E, endB c0 = E := ⟨_, rfl⟩
  have hEz : E.size ≤ 6 := by rw [← hEn]; cases c0 <;> decide
  rw [hEn] at HPG ⊢
  unfold plB
  have hzA : (numsB A0).size ≤ 70 := by omega
  have hzB : (numsB B0).size ≤ 70 := by omega
  clear hD hB hv hu hE hn hm h1 g1 b1 b2 b3 b4 hA hBn zA zB hA3 hB3 hm3 hmo hok ht hsp hEn h8 g8
  generalize (⟨#[112, 108, 97, 121]⟩ : ByteArray) ++ ⟨#[32]⟩ ++ s = line at *
  generalize numsB A0 = NA at *
  generalize numsB B0 = NB at *
  have z1 : (NA ++ ⟨#[32, 47, 32]⟩ : ByteArray).size ≤ 73 := by rw [ByteArray.size_append]; show _ + 3 ≤ _; omega
  have z2 : (NA ++ ⟨#[32, 47, 32]⟩ ++ NB : ByteArray).size ≤ 143 := by rw [ByteArray.size_append]; omega
  have z3 : (NA ++ ⟨#[32, 47, 32]⟩ ++ NB ++ ⟨#[32, 47, 32]⟩ : ByteArray).size ≤ 146 := by rw [ByteArray.size_append]; show _ + 3 ≤ _; omega
  have z4 : (NA ++ ⟨#[32, 47, 32]⟩ ++ NB ++ ⟨#[32, 47, 32]⟩ ++ E : ByteArray).size ≤ 152 := by rw [ByteArray.size_append]; omega
  generalize hb : a = b at HD ⊢
  subst hb
  go_enter Tryz.func33, Tryz.ntmps33
  go_wp2_with fail
  refine (HCU.out _).mono ?_; rintro e w1 ⟨rfl, hb⟩
  have HD1 : Hid (DeskAt w1 d a ∧ Off (fun x => x = d) W w1 ∧ Below w0.heap.size w0 w1) := ⟨HD.out.1.below hb, Off.of_below hb, HD.out.2.2.trans (hb.mono HD.out.2.2.size)⟩
  clear hb HD
  obtain ⟨c0, c1, c2, c3, c4, c5, c6, cf⟩ := HD1.out.1.cells
  clear cf c6
  go_upto_region 20 with fail
  have J := Lib.hid (fun s : Since w1 => HMV.out s.w)
  have C0 := fun s => Since.cell c0 s
  have C1 := fun s => Since.cell c1 s
  have C2 := fun s => Since.cell c2 s
  have C3 := fun s => Since.cell c3 s
  have C4 := fun s => Since.cell c4 s
  have C5 := fun s => Since.cell c5 s
  refine wp_region_since (by kernel_rfl) (by kernel_rfl) ?_
  repeat (go_big_quiet_step (first | (with_reducible exact Since.call (J.out _)) | (with_reducible exact C0 _) | (with_reducible exact C1 _) | (with_reducible exact C2 _) | (with_reducible exact C3 _) | (with_reducible exact C4 _) | (with_reducible exact C5 _)))
  refine wpQuiet_nil ?_
  intro w2 hb
  clear J C0 C1 C2 C3 C4 C5 c0 c1 c2 c3 c4 c5
  have HD2 : Hid (DeskAt w2 d a ∧ Off (fun x => x = d) W w2 ∧ Below w0.heap.size w0 w2) := ⟨HD1.out.1.below hb, HD1.out.2.1.trans (Off.of_below (F := fun _ => False) hb) (fun _ h => h.elim), HD1.out.2.2.trans (hb.mono HD1.out.2.2.size)⟩
  clear hb HD1
  have KS : Hid (∀ w' : World, Below w2.heap.size w2 w' → (w'.cell? ⟨d, 0, none⟩ = some (.int .i64 a.n) ∧ w'.cell? ⟨d, 1, none⟩ = some (.string a.S) ∧ w'.cell? ⟨d, 2, none⟩ = some (.string a.R) ∧ w'.cell? ⟨d, 3, none⟩ = some (.int .i64 a.m) ∧ w'.cell? ⟨d, 4, none⟩ = some (.string a.T) ∧ w'.cell? ⟨d, 5, none⟩ = some (.string a.U))) := by
    intro w' h
    obtain ⟨c0, c1, c2, c3, c4, c5, c6, cf⟩ := (HD2.out.1.below h).cells
    exact ⟨c0, c1, c2, c3, c4, c5⟩
  obtain ⟨c0, c1, c2, c3, c4, c5⟩ := KS.out _ (Below.refl _ _)
  go_upto_region 22 with fail
  go_region_held3 (fun w' => w'.cell? ⟨d, 0, none⟩ = some (.int .i64 a.n) ∧ w'.cell? ⟨d, 1, none⟩ = some (.string a.S) ∧ w'.cell? ⟨d, 2, none⟩ = some (.string a.R) ∧ w'.cell? ⟨d, 3, none⟩ = some (.int .i64 a.m) ∧ w'.cell? ⟨d, 4, none⟩ = some (.string a.T) ∧ w'.cell? ⟨d, 5, none⟩ = some (.string a.U))
    (first | exact KS.out _ HOB.out | go_keep)
    (first | ((with_reducible refine (HPG.out _ (HTS.out _ HD2.out.2.2.drew)).mono ?_); rintro e w3 ⟨v, u, rfl, hv, hu, hb⟩; have HOB := Lib.hid ((Below.refl w2.heap.size w2).drew.trans (hb.mono (Nat.le_refl _))); have HNA := Lib.hid hv; have HNB := Lib.hid hu; clear hv hu hb) | fail)
  all_goals
    have HD3 : Hid (DeskAt w3 d a ∧ Off (fun x => x = d) W w3 ∧ Below w0.heap.size w0 w3) := ⟨HD2.out.1.below HOB.out, HD2.out.2.1.trans (Off.of_below (F := fun _ => False) HOB.out) (fun _ h => h.elim), HD2.out.2.2.trans (HOB.out.mono HD2.out.2.2.size)⟩
    clear HD2 KS HOB c0 c1 c2 c3 c4 c5
    go_wp2_with fail
    refine (HFA.out _ _ HNA.out (HT.out _ HD3.out.2.2)).mono ?_; rintro e w4 ⟨rfl, hb⟩
    have HD4 : Hid (DeskAt w4 d a ∧ Off (fun x => x = d) W w4 ∧ Below w0.heap.size w0 w4) := ⟨HD3.out.1.below hb, HD3.out.2.1.trans (Off.of_below (F := fun _ => False) hb) (fun _ h => h.elim), HD3.out.2.2.trans (hb.mono HD3.out.2.2.size)⟩
    have HNB4 := Lib.hid (HNB.out.below hb)
    clear hb HD3 HNB
    go_wp2_with fail
    refine (HFB.out _ _ HNB4.out (HT.out _ HD4.out.2.2)).mono ?_; rintro e w5 ⟨rfl, hb⟩
    have HD5 : Hid (DeskAt w5 d a ∧ Off (fun x => x = d) W w5) := ⟨HD4.out.1.below hb, HD4.out.2.1.trans (Off.of_below (F := fun _ => False) hb) (fun _ h => h.elim)⟩
    clear hb HD4
    go_wp2_with fail
    go_ret
    exact ⟨rfl, HD5.out⟩
set_option maxHeartbeats 1000000 in
theorem run_play_no (w0 : World) (a : DS) (n m : Nat) (s : ByteArray) (hn : a.n = (n : Int)) (hm : a.m = (m : Int)) (hv : validB n a.S a.R = true) (hu : validB m a.T a.U = true) (hok : okMs n m s = false) (hs : s.size ≤ 900) : RunOK w0 (⟨#[112, 108, 97, 121]⟩ ++ ⟨#[32]⟩ ++ s) a a noB := by
  intro W d hd hB hD
  obtain ⟨h1, h8, _, _, _, _⟩ := valid_is hv
  obtain ⟨g1, g8, _, _, _, _⟩ := valid_is hu
  have HCU := Lib.hid (fun w => cut_line ⟨#[112, 108, 97, 121]⟩ s (by decide) (by rw [ByteArray.size_append, ByteArray.size_append]; show 4 + 1 + _ ≤ _; omega) w)
  have HMV := Lib.hid (fun w => areMoves_any n m a.S a.R a.T a.U s h8 g8 hs w)
  rw [hok, ← hn, ← hm] at HMV
  unfold strV at HMV
  have HD : Hid (DeskAt W d a ∧ Off (fun x => x = d) W W) := ⟨hD, Off.of_below (Below.refl _ _)⟩
  clear hD hB hv hu hn hm h1 g1 hok h8 g8
  generalize (⟨#[112, 108, 97, 121]⟩ : ByteArray) ++ ⟨#[32]⟩ ++ s = line at *
  generalize hb : a = b at HD ⊢
  subst hb
  go_enter Tryz.func33, Tryz.ntmps33
  go_wp2_with fail
  refine (HCU.out _).mono ?_; rintro e w1 ⟨rfl, hb⟩
  have HD1 : Hid (DeskAt w1 d a ∧ Off (fun x => x = d) W w1) := ⟨HD.out.1.below hb, Off.of_below hb⟩
  clear hb HD
  obtain ⟨c0, c1, c2, c3, c4, c5, c6, cf⟩ := HD1.out.1.cells
  clear cf c6
  go_upto_region 20 with fail
  have J := Lib.hid (fun s : Since w1 => HMV.out s.w)
  have C0 := fun s => Since.cell c0 s
  have C1 := fun s => Since.cell c1 s
  have C2 := fun s => Since.cell c2 s
  have C3 := fun s => Since.cell c3 s
  have C4 := fun s => Since.cell c4 s
  have C5 := fun s => Since.cell c5 s
  refine wp_region_since (by kernel_rfl) (by kernel_rfl) ?_
  repeat (go_big_quiet_step (first | (with_reducible exact Since.call (J.out _)) | (with_reducible exact C0 _) | (with_reducible exact C1 _) | (with_reducible exact C2 _) | (with_reducible exact C3 _) | (with_reducible exact C4 _) | (with_reducible exact C5 _)))
  refine wpQuiet_nil ?_
  intro w2 hb
  clear J C0 C1 C2 C3 C4 C5 c0 c1 c2 c3 c4 c5
  have HD2 : Hid (DeskAt w2 d a ∧ Off (fun x => x = d) W w2) := ⟨HD1.out.1.below hb, HD1.out.2.trans (Off.of_below (F := fun _ => False) hb) (fun _ h => h.elim)⟩
  clear hb HD1
  go_wp2_with fail
  go_ret
  exact ⟨rfl, HD2.out⟩
end Go.Proofs.YthmhjihppbeodaaGreatDoor

namespace Go.Proofs.YthmhjihppbeodaaGreatDoor
open Go.RowKit
set_option linter.unusedVariables false
set_option maxRecDepth 100000
/-- The lines of the script. -/
def playLines (s t m : ByteArray) : List ByteArray := [(⟨#[108, 101, 102, 116, 32]⟩ : ByteArray) ++ s, (⟨#[114, 105, 103, 104, 116, 32]⟩ : ByteArray) ++ t, (⟨#[112, 108, 97, 121, 32]⟩ : ByteArray) ++ m, (⟨#[109, 111, 118, 101, 32, 50]⟩ : ByteArray)]
theorem playScript (s t m : ByteArray) : (⟨#[108, 101, 102, 116, 32]⟩ : ByteArray) ++ s ++ (⟨#[10, 114, 105, 103, 104, 116, 32]⟩ : ByteArray) ++ t ++ (⟨#[10, 112, 108, 97, 121, 32]⟩ : ByteArray) ++ m ++ (⟨#[10, 109, 111, 118, 101, 32, 50, 10]⟩ : ByteArray) = linesB (playLines s t m) := by
  apply ByteArray.ext
  apply Array.toList_inj.1
  simp [linesB, playLines, linesL, ByteArray.data_append, Array.toList_append]
theorem playLines_no (s t m : ByteArray) (hs : (10 : UInt8) ∉ s.data.toList) (ht : (10 : UInt8) ∉ t.data.toList) (hm : (10 : UInt8) ∉ m.data.toList) : ∀ l ∈ playLines s t m, (10 : UInt8) ∉ l.data.toList := by
  intro l hl
  simp only [playLines, List.mem_cons, List.not_mem_nil, or_false] at hl
  rcases hl with rfl | rfl | rfl | rfl
  · simp [ByteArray.data_append, Array.toList_append, hs]
  · simp [ByteArray.data_append, Array.toList_append, ht]
  · simp [ByteArray.data_append, Array.toList_append, hm]
  · decide
theorem playLines_ne (s t m : ByteArray) : ∀ l ∈ playLines s t m, l ≠ ByteArray.empty := by
  intro l hl
  simp only [playLines, List.mem_cons, List.not_mem_nil, or_false] at hl
  rcases hl with rfl | rfl | rfl | rfl
  · intro h; have := congrArg (fun b : ByteArray => b.data.toList.length) h; simp [ByteArray.data_append, Array.toList_append] at this
  · intro h; have := congrArg (fun b : ByteArray => b.data.toList.length) h; simp [ByteArray.data_append, Array.toList_append] at this
  · intro h; have := congrArg (fun b : ByteArray => b.data.toList.length) h; simp [ByteArray.data_append, Array.toList_append] at this
  · decide
/-- The answers of the script. -/
def playAns (p k : ByteArray) : List ByteArray := [(⟨#[111, 107]⟩ : ByteArray), (⟨#[111, 107]⟩ : ByteArray), p, k]
theorem playOut (p k : ByteArray) : (⟨#[111, 107, 10, 111, 107, 10]⟩ : ByteArray) ++ (p ++ ⟨#[10]⟩) ++ k ++ (⟨#[10]⟩ : ByteArray) = outT (playAns p k) := by
  apply ByteArray.ext
  apply Array.toList_inj.1
  simp [outT, playAns, ByteArray.data_append, Array.toList_append]
end Go.Proofs.YthmhjihppbeodaaGreatDoor
