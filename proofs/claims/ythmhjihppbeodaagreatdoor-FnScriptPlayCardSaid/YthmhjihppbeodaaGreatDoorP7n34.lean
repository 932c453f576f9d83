/- Contracts of the program's functions and what they compute: part 34. Conditions: those that each theorem states. -/
import Derived.Test.YthmhjihppbeodaaGreatDoorP7n33
import Derived.Test.YthmhjihppbeodaaGreatDoorP7n24
import Derived.Test.YthmhjihppbeodaaGreatDoorP7n25
namespace Go.Proofs.YthmhjihppbeodaaGreatDoor
open Go.RowKit
set_option linter.unusedVariables false
set_option maxRecDepth 100000
theorem nums_nil {w w' : World} {g : Nat} (h : g < w'.heap.size) : NumsAt w' (.slice (some ⟨g, 0, none⟩) 0 0) [] := .inr ⟨g, 0, 0, rfl, Nat.le_refl _, by decide, h, fun j hj => absurd hj (Nat.not_lt_zero j)⟩
theorem specPlay_no1 (n : Int) (S R : ByteArray) (m : Int) (S2 R2 s : ByteArray) (w : World) (hS : S.size ≤ 9223372036854775807) (hR : R.size ≤ 9223372036854775807) (hv : validB n S R = false) :
    Calls Tryz.prog 6 #[strV n S R, strV m S2 R2, .string s] w (PlayP [] [] noB w) := by
  have HIA := Lib.hid (fun w => specValid_any n S R w hS hR)
  rw [hv] at HIA
  have hb0 : Below w.heap.size w ((w.alloc (.cells #[.int .i64 n, .string S, .string R] 24)).alloc (.cells #[.int .i64 m, .string S2, .string R2] 24)) := ((Below.refl _ _).alloc (Nat.le_refl _) _).alloc (by simp) _
  clear hv hS hR
  unfold strV at HIA ⊢
  go_enter Tryz.func6, Tryz.ntmps6
  go_upto_region 3 with fail
  obtain ⟨w0, hw0⟩ : ∃ w0, (((w.alloc (.cells #[.int .i64 n, .string S, .string R] 24)).alloc (.cells #[.int .i64 m, .string S2, .string R2] 24)).alloc (.cells #[] 3)).alloc (.cells #[] 3) = w0 := ⟨_, rfl⟩
  have hz : w0.heap.size = w.heap.size + 4 := by rw [← hw0]; simp
  have h1 : Below (w.heap.size + 1) (w.alloc (.cells #[.int .i64 n, .string S, .string R] 24)) w0 := by
    rw [← hw0]; exact (((Below.refl _ _).alloc (by simp) _).alloc (by simp) _).alloc (by simp) _
  have HX : Hid (SBlk w0 w.heap.size n S R) := (SBlk.new w n S R).below h1 (by omega)
  have HB : Hid (Below w.heap.size w w0) := ((Below.refl w.heap.size w).alloc (Nat.le_refl _) _).trans (h1.mono (by omega))
  rw [hw0]
  clear hw0 h1 hb0
  obtain ⟨c0, c1, c2, _, _, _, hl⟩ := HX.out.cells
  go_wp2_with fail
  refine (HIA.out _).mono ?_; rintro e w1 ⟨rfl, hb⟩
  have HB1 := Lib.hid (HB.out.trans (hb.mono HB.out.size))
  have HZ1 : Hid (w.heap.size + 4 ≤ w1.heap.size) := by have := hb.size; show _ ≤ _; omega
  clear hb
  go_wp2_with fail
  go_ret3
  exact ⟨_, _, rfl, nums_nil (w := w) (by have := HZ1.out; omega), nums_nil (w := w) (by have := HZ1.out; omega), HB1.out⟩
set_option maxHeartbeats 1000000 in
theorem specPlay_no2 (n : Nat) (S R : ByteArray) (m : Nat) (S2 R2 s : ByteArray) (w : World) (hv : validB n S R = true) (hu : validB m S2 R2 = true) (hok : okMs n m s = false) (hs : s.size ≤ 900) :
    Calls Tryz.prog 6 #[strV n S R, strV m S2 R2, .string s] w (PlayP [] [] noB w) := by
  obtain ⟨a1, a8, aS, aR, _, _⟩ := valid_is hv
  obtain ⟨b1, b8, bS, bR, _, _⟩ := valid_is hu
  have HIA := Lib.hid (fun w => specValid_b n S R w hv)
  have HIB := Lib.hid (fun w => specValid_b m S2 R2 w hu)
  have hMVX : ∀ w, Calls Tryz.prog 25 #[strV n S R, strV m S2 R2, .string s] w fun e w' => ∃ v, e = .returned (.tuple #[v, .bool false]) ∧ Below w.heap.size w w' := fun w => by
    refine (l5Moves_any n m S R S2 R2 s a8 b8 hs w).mono fun e w' ⟨v, he, hb, hc⟩ => ?_
    rw [hok] at he
    exact ⟨v, he, hb⟩
  have HMV := Lib.hid hMVX
  have HT := Lib.hid (Two.new w n S R m S2 R2)
  unfold boxS at HT
  clear hv hu hok hMVX
  unfold strV at HIA HIB HMV
  unfold strV
  go_enter Tryz.func6, Tryz.ntmps6
  go_upto_region 3 with fail
  obtain ⟨w0, hw0⟩ : ∃ w0, (((w.alloc (.cells #[.int .i64 (n : Int), .string S, .string R] 24)).alloc (.cells #[.int .i64 (m : Int), .string S2, .string R2] 24)).alloc (.cells #[] 3)).alloc (.cells #[] 3) = w0 := ⟨_, rfl⟩
  have HV0 : Hid (Two w w0 n S R m S2 R2 ∧ w.heap.size + 4 ≤ w0.heap.size) := by
    have hz : w0.heap.size = w.heap.size + 4 := by rw [← hw0]; simp
    have h1 : Below ((w.alloc (.cells #[.int .i64 (n : Int), .string S, .string R] 24)).alloc (.cells #[.int .i64 (m : Int), .string S2, .string R2] 24)).heap.size ((w.alloc (.cells #[.int .i64 (n : Int), .string S, .string R] 24)).alloc (.cells #[.int .i64 (m : Int), .string S2, .string R2] 24)) w0 := by
      rw [← hw0]; exact ((Below.refl _ _).alloc (Nat.le_refl _) _).alloc (by simp) _
    exact ⟨HT.out.below h1, by omega⟩
  rw [hw0]
  clear hw0 HT
  obtain ⟨c0', c1, c2, f0, f1, f2, hl1⟩ := HV0.out.1.a.cells
  obtain ⟨d0, d1, d2, g0, g1, g2, hl2⟩ := HV0.out.1.b.cells
  go_wp2_with fail
  refine (HIA.out _).mono ?_; rintro e w1 ⟨rfl, hb⟩
  have HV1 : Hid (Two w w1 n S R m S2 R2 ∧ w.heap.size + 4 ≤ w1.heap.size) := ⟨HV0.out.1.below hb, Nat.le_trans HV0.out.2 hb.size⟩
  clear hb c0' c1 c2 f0 f1 f2 hl1 d0 d1 d2 g0 g1 g2 hl2 HV0
  obtain ⟨c0', c1, c2, f0, f1, f2, hl1⟩ := HV1.out.1.a.cells
  obtain ⟨d0, d1, d2, g0, g1, g2, hl2⟩ := HV1.out.1.b.cells
  go_wp2_with fail
  refine (HIB.out _).mono ?_; rintro e w2 ⟨rfl, hb⟩
  have HV2 : Hid (Two w w2 n S R m S2 R2 ∧ w.heap.size + 4 ≤ w2.heap.size) := ⟨HV1.out.1.below hb, Nat.le_trans HV1.out.2 hb.size⟩
  clear hb c0' c1 c2 f0 f1 f2 hl1 d0 d1 d2 g0 g1 g2 hl2 HV1
  obtain ⟨c0', c1, c2, f0, f1, f2, hl1⟩ := HV2.out.1.a.cells
  obtain ⟨d0, d1, d2, g0, g1, g2, hl2⟩ := HV2.out.1.b.cells
  go_wp2_with fail
  refine (HMV.out _).mono ?_; rintro e w3 ⟨v, rfl, hb⟩
  have HV3 : Hid (Two w w3 n S R m S2 R2 ∧ w.heap.size + 4 ≤ w3.heap.size) := ⟨HV2.out.1.below hb, Nat.le_trans HV2.out.2 hb.size⟩
  clear hb c0' c1 c2 f0 f1 f2 hl1 d0 d1 d2 g0 g1 g2 hl2 HV2
  go_wp2_with fail
  go_ret3
  exact ⟨_, _, rfl, nums_nil (w := w) (by have := HV3.out.2; omega), nums_nil (w := w) (by have := HV3.out.2; omega), HV3.out.1.old⟩
end Go.Proofs.YthmhjihppbeodaaGreatDoor

namespace Go.Proofs.YthmhjihppbeodaaGreatDoor
open Go.RowKit
set_option linter.unusedVariables false
set_option maxRecDepth 100000
/-- What both games return, and what the script's line answers. -/
structure PlOk (n : Nat) (S R : ByteArray) (m : Nat) (T U s : ByteArray) (A B : List Nat) (E P : ByteArray) (c : Bool) : Prop where
  im : ∀ w, TabSp w → Calls Tryz.prog 5 #[strV n S R, strV m T U, .string s] w (PlayP A B E w)
  sp : ∀ w, Calls Tryz.prog 6 #[strV n S R, strV m T U, .string s] w (PlayP A B E w)
  la : A.length ≤ 3
  lb : B.length ≤ 3
  ha : ∀ x ∈ A, x ≤ 1000000
  hb : ∀ x ∈ B, x ≤ 1000000
  ln : ∀ w0, Tab w0 → TabSp w0 → ∀ a : DS, a.n = (n : Int) → a.S = S → a.R = R → a.m = (m : Int) → a.T = T → a.U = U → RunOK w0 (⟨#[112, 108, 97, 121]⟩ ++ ⟨#[32]⟩ ++ s) a a P
  pe : P = if c then plB A B E else noB
  ce : (!(E.toList == [110, 111])) = c
  ez : E.size ≤ 6
theorem pl_ok (n : Nat) (S R : ByteArray) (m : Nat) (T U s : ByteArray) (hv : validB n S R = true) (hu : validB m T U = true) (hs : s.size ≤ 900) : ∃ A B E P c, PlOk n S R m T U s A B E P c := by
  obtain ⟨h1, h8, _, _, _, _⟩ := valid_is hv
  obtain ⟨g1, g8, _, _, _, _⟩ := valid_is hu
  cases hok : okMs n m s
  · refine ⟨[], [], noB, noB, false, fun w _ => PlayGame_no2 n S R m T U s w hv hu hok hs, fun w => specPlay_no2 n S R m T U s w hv hu hok hs, by simp, by simp, by simp, by simp, ?_, rfl, by rw [Lib.toList_data]; rfl, by decide⟩
    intro w0 _ _ a h1 h2 h3 h4 h5 h6
    exact run_play_no w0 a n m s h1 h4 (by rw [h2, h3]; exact hv) (by rw [h5, h6]; exact hu) hok hs
  · obtain ⟨hm3, hmo⟩ := moves_ok hok
    obtain ⟨⟨A, B, c⟩, hE⟩ : ∃ r, playP (stOf n S R) (stOf m T U) (mvsOf s) [] [] = r := ⟨_, rfl⟩
    obtain ⟨b1, b2, b3, b4⟩ := playP_ok (a := stOf n S R) (b := stOf m T U) _ _ _ A B c hmo hE (by simp) (by simp)
    refine ⟨A, B, endB c, plB A B (endB c), true, fun w h => PlayGame_any n S R m T U s w hv hu hok hs h A B c hE, fun w => specPlay_any n S R m T U s w hv hu hok hs A B c hE, by simp at b1; omega, by simp at b2; omega, nums_le b3 h8, nums_le b4 g8, ?_, rfl, by cases c <;> (rw [Lib.toList_data]; rfl), by cases c <;> decide⟩
    intro w0 ht hsp a h1 h2 h3 h4 h5 h6
    exact run_play w0 ht hsp a n m s h1 h4 (by rw [h2, h3]; exact hv) (by rw [h5, h6]; exact hu) hok hs A B c (by rw [h2, h3, h5, h6]; exact hE)
theorem play_steps (w0 : World) (ht : Tab w0) (hsp : TabSp w0) (n : Nat) (S R : ByteArray) (m : Nat) (T U s : ByteArray) (hv : validB n S R = true) (hu : validB m T U = true) (A B : List Nat) (E P : ByteArray) (c : Bool) (H : PlOk n S R m T U s A B E P c) :
    Steps w0 desk0 (playLines (fmtS S R) (fmtS T U) s) (playAns P (mvAns (stOf n S R) (stOf m T U) 1)) := by
  have e1 : (⟨#[108, 101, 102, 116, 32]⟩ : ByteArray) = ⟨#[108, 101, 102, 116]⟩ ++ ⟨#[32]⟩ := ByteArray.ext (Array.toList_inj.1 rfl)
  have e2 : (⟨#[114, 105, 103, 104, 116, 32]⟩ : ByteArray) = ⟨#[114, 105, 103, 104, 116]⟩ ++ ⟨#[32]⟩ := ByteArray.ext (Array.toList_inj.1 rfl)
  have e3 : (⟨#[112, 108, 97, 121, 32]⟩ : ByteArray) = ⟨#[112, 108, 97, 121]⟩ ++ ⟨#[32]⟩ := ByteArray.ext (Array.toList_inj.1 rfl)
  have e4 : (⟨#[109, 111, 118, 101, 32, 50]⟩ : ByteArray) = ⟨#[109, 111, 118, 101]⟩ ++ ⟨#[32]⟩ ++ itoS (2 : Int) := by
    have : itoS (2 : Int) = ⟨#[50]⟩ := itoS_digit (k := 2) (by omega)
    rw [this]
    exact ByteArray.ext (Array.toList_inj.1 rfl)
  unfold playLines playAns
  rw [e1, e2, e3, e4]
  have R1 := run_left w0 desk0 n S R hv
  have R2 := run_right w0 { desk0 with n := (n : Int), S := S, R := R } m T U hu
  obtain ⟨d2, hd2⟩ : ∃ d2 : DS, { { desk0 with n := (n : Int), S := S, R := R } with m := (m : Int), T := T, U := U } = d2 := ⟨_, rfl⟩
  rw [hd2] at R2
  have n3 : d2.n = (n : Int) := by rw [← hd2]
  have S3 : d2.S = S := by rw [← hd2]
  have Q3 : d2.R = R := by rw [← hd2]
  have m3 : d2.m = (m : Int) := by rw [← hd2]
  have T3 : d2.T = T := by rw [← hd2]
  have U3 : d2.U = U := by rw [← hd2]
  have R3 := H.ln w0 ht hsp d2 n3 S3 Q3 m3 T3 U3
  have h4 := asked_move w0 ht d2 n m 1 n3 m3 (by omega) (by rw [S3, Q3]; exact hv) (by rw [T3, U3]; exact hu)
  rw [S3, Q3, T3, U3] at h4
  have R4 := run_move w0 ht d2 2 (by omega) _ h4
  exact ⟨_, R1, _, R2, _, R3, _, R4, trivial⟩
/-- The laws' gsLine. -/
theorem gsLine_any (s : ByteArray) (c : Bool) (hs : s.size ≤ 100000) (w : World) : Calls Tryz.prog 11 #[.string s, .bool c] w fun e w' => e = .returned (.string ((if c then s else noB) ++ ⟨#[10]⟩)) ∧ Below w.heap.size w w' := by
  have h : (s ++ ⟨#[10]⟩ : ByteArray).size ≤ 100001 := by rw [ByteArray.size_append]; show s.size + 1 ≤ _; omega
  cases c
  all_goals
    go_enter Tryz.func11, Tryz.ntmps11
    go_wp2_with fail
    go_ret
    exact ⟨rfl, Below.refl _ _⟩
theorem implValid_play (n : Int) (S R : ByteArray) (hS : S.size ≤ 9223372036854775807) (hR : R.size ≤ 9223372036854775807) (w : World) :
    Calls Tryz.prog 8 #[strV n S R] w fun e w' => e = .returned (.bool (validB n S R)) ∧ Below w.heap.size w w' := by
  have HIS := Lib.hid (fun w => isStructure_any n S R w hS hR)
  have HB : Hid (SBlk (boxS w n S R) w.heap.size n S R ∧ Below w.heap.size w (boxS w n S R)) := ⟨boxS_SBlk _ _ _ _, boxS_below _ _ _ _⟩
  unfold boxS at HB
  generalize validB n S R = b at *
  unfold strV at HIS
  unfold strV
  go_enter Tryz.func8, Tryz.ntmps8
  go_wp2_with fail
  refine (HIS.out _).mono ?_; rintro e w1 ⟨rfl, hb1⟩
  have HB1 := Lib.hid (HB.out.2.trans (hb1.mono HB.out.2.size))
  clear hb1
  go_wp2_with fail
  go_ret
  exact ⟨rfl, HB1.out⟩
end Go.Proofs.YthmhjihppbeodaaGreatDoor
