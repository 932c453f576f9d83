/- Contracts of the program's functions and what they compute: part 29. Conditions: those that each theorem states. -/
import Derived.Test.YtdonjgjkhndfcaaGreatDoorP52n1
import Derived.Test.YtdonjgjkhndfcaaGreatDoorP52n6
import Derived.Test.YtdonjgjkhndfcaaGreatDoorP52n9
import Derived.Test.YtdonjgjkhndfcaaGreatDoorP52n10
import Derived.Test.YtdonjgjkhndfcaaGreatDoorP52n11
import Derived.Test.YtdonjgjkhndfcaaGreatDoorP52n12
import Derived.Test.YtdonjgjkhndfcaaGreatDoorP52n13
import Derived.Test.YtdonjgjkhndfcaaGreatDoorP52n17
import Derived.Test.YtdonjgjkhndfcaaGreatDoorP52n28
import Derived.Deep.RegionHeld3
import Derived.Laws.IdiomStrings
import Derived.Deep.DeepCutAuto
namespace Go.Proofs.YtdonjgjkhndfcaaGreatDoor
open Go.RowKit
set_option linter.unusedVariables false
set_option maxRecDepth 100000
theorem after_lt_s (a : Gs.St) (r : Nat) (h1 : 1 ≤ a.n) {x : Nat} (hx : x ∈ Col.after [a] r) : x < a.n := by
  have h := Col.after_top a r h1
  have := le_maxL hx
  omega
theorem stabAt_le_s (a : Gs.St) : ∀ f r, Col.stabAt a f r ≤ r + f
  | 0, r => Nat.le_refl _
  | f + 1, r => by
    unfold Col.stabAt
    split
    · omega
    · have := stabAt_le_s a f (r + 1); omega
theorem stab_le_s (a : Gs.St) : Col.stab a ≤ 8 := by
  have := stabAt_le_s a 8 0
  unfold Col.stab
  omega
set_option maxHeartbeats 1000000 in
/-- No structure: nothing turns. -/
theorem become_no (n : Int) (S R : ByteArray) (a : DS) (W : World) (d : Nat) (hD : DeskAt W d a) :
    Calls Tryz.prog 71 #[.pointer (some ⟨d, 0, none⟩), strV n S R, .bool false] W fun e w' => e = .returned (.string ⟨#[110, 111]⟩) ∧ DeskAt w' d a ∧ Off (fun x => x = d) W w' := by
  have hb1 : Below W.heap.size W (boxS W n S R) := boxS_below _ _ _ _
  have HB : Hid (DeskAt (boxS W n S R) d a ∧ Off (fun x => x = d) W (boxS W n S R)) := ⟨hD.below hb1, Off.of_below hb1⟩
  obtain ⟨W1, hW1⟩ : ∃ W1, boxS W n S R = W1 := ⟨_, rfl⟩
  rw [hW1] at HB
  unfold boxS at hW1
  have HW := Lib.hid hW1
  clear hb1 hD hW1
  unfold strV
  go_enter Tryz.func71, Tryz.ntmps71
  go_upto_region 1 with fail
  rw [HW.out]
  go_wp2_with fail
  go_ret
  exact ⟨rfl, HB.out⟩
set_option maxHeartbeats 1000000 in
theorem plain_sum (w0 : World) (a : DS) (n : Nat) (T U : ByteArray) (hv : validB n T U = true) (HP0 : ∀ w, Calls Tryz.prog 5 #[strV a.n a.S a.R, strV a.m a.T a.U] w fun e w' => e = .returned (.tuple #[strV n T U, .bool true]) ∧ Below w.heap.size w w') : PlainOK w0 ⟨#[115, 117, 109]⟩ a (a.left n T U) (fmtS T U) := by
  intro W d hd0 hB hD
  have HP := Lib.hid HP0
  have HW := Lib.hid (fun W hD => become_yes n T U hv a W d hD)
  change Hid (∀ W (hD : DeskAt W d a), Calls _ _ _ W fun e w' => e = .returned (.string (fmtS T U)) ∧ DeskAt w' d (a.left n T U) ∧ Off (fun x => x = d) W w') at HW
  obtain ⟨c0, c1, c2, c3, c4, c5, c6, cf⟩ := hD.cells
  have HD := Lib.hid hD
  clear cf hD hB HP0 hv
  generalize fmtS T U = F at *
  obtain ⟨b, hb⟩ : ∃ b : DS, a.left n T U = b := ⟨_, rfl⟩
  rw [hb] at HW ⊢
  clear hb
  unfold strV at HP HW
  have JP := Lib.hid (fun s : Since W => HP.out s.w)
  have C0 := fun s => Since.cell c0 s
  have C1 := fun s => Since.cell c1 s
  have C2 := fun s => Since.cell c2 s
  have C3 := fun s => Since.cell c3 s
  have C4 := fun s => Since.cell c4 s
  have C5 := fun s => Since.cell c5 s
  go_enter Tryz.func65, Tryz.ntmps65
  go_upto_region 3 with fail
  refine wp_region_since_tail 12 (by kernel_rfl) (by kernel_rfl) ?_
  simp only [List.take_succ_cons, List.take_zero, List.drop_succ_cons, List.drop_zero]
  repeat (go_big_quiet_step (first | (with_reducible exact Since.call (JP.out _)) | (with_reducible exact C0 _) | (with_reducible exact C1 _) | (with_reducible exact C2 _) | (with_reducible exact C3 _) | (with_reducible exact C4 _) | (with_reducible exact C5 _)))
  refine wpQuiet_nil ?_
  intro w1 hb
  have HD1 : Hid (DeskAt w1 d a ∧ Off (fun x => x = d) W w1) := ⟨HD.out.below hb, Off.of_below hb⟩
  clear hb HD c0 c1 c2 c3 c4 c5 c6 JP C0 C1 C2 C3 C4 C5
  go_wp2_with fail
  refine (HW.out _ HD1.out.1).mono ?_; rintro e w2 ⟨rfl, hd2, ho2⟩
  have HD2 : Hid (DeskAt w2 d b ∧ Off (fun x => x = d) W w2) := ⟨hd2, HD1.out.2.trans ho2 (fun _ h => .inl h)⟩
  clear hd2 ho2
  go_wp2_with fail
  go_ret
  exact ⟨rfl, HD2.out⟩
theorem run_sum (w0 : World) (a : DS) (n : Nat) (T U : ByteArray) (hv : validB n T U = true) (HP0 : ∀ w, Calls Tryz.prog 5 #[strV a.n a.S a.R, strV a.m a.T a.U] w fun e w' => e = .returned (.tuple #[strV n T U, .bool true]) ∧ Below w.heap.size w w') : RunOK w0 ⟨#[115, 117, 109]⟩ a (a.left n T U) (fmtS T U) :=
  run_plain w0 _ (by decide) a _ _ (plain_sum w0 a n T U hv HP0)
set_option maxHeartbeats 1000000 in
theorem plain_ordered (w0 : World) (a : DS) (n : Nat) (T U : ByteArray) (hv : validB n T U = true) (HP0 : ∀ w, Calls Tryz.prog 8 #[strV a.n a.S a.R, strV a.m a.T a.U] w fun e w' => e = .returned (.tuple #[strV n T U, .bool true]) ∧ Below w.heap.size w w') : PlainOK w0 ⟨#[111, 114, 100, 101, 114, 101, 100]⟩ a (a.left n T U) (fmtS T U) := by
  intro W d hd0 hB hD
  have HP := Lib.hid HP0
  have HW := Lib.hid (fun W hD => become_yes n T U hv a W d hD)
  change Hid (∀ W (hD : DeskAt W d a), Calls _ _ _ W fun e w' => e = .returned (.string (fmtS T U)) ∧ DeskAt w' d (a.left n T U) ∧ Off (fun x => x = d) W w') at HW
  obtain ⟨c0, c1, c2, c3, c4, c5, c6, cf⟩ := hD.cells
  have HD := Lib.hid hD
  clear cf hD hB HP0 hv
  generalize fmtS T U = F at *
  obtain ⟨b, hb⟩ : ∃ b : DS, a.left n T U = b := ⟨_, rfl⟩
  rw [hb] at HW ⊢
  clear hb
  unfold strV at HP HW
  have JP := Lib.hid (fun s : Since W => HP.out s.w)
  have C0 := fun s => Since.cell c0 s
  have C1 := fun s => Since.cell c1 s
  have C2 := fun s => Since.cell c2 s
  have C3 := fun s => Since.cell c3 s
  have C4 := fun s => Since.cell c4 s
  have C5 := fun s => Since.cell c5 s
  go_enter Tryz.func65, Tryz.ntmps65
  go_upto_region 5 with fail
  refine wp_region_since_tail 12 (by kernel_rfl) (by kernel_rfl) ?_
  simp only [List.take_succ_cons, List.take_zero, List.drop_succ_cons, List.drop_zero]
  repeat (go_big_quiet_step (first | (with_reducible exact Since.call (JP.out _)) | (with_reducible exact C0 _) | (with_reducible exact C1 _) | (with_reducible exact C2 _) | (with_reducible exact C3 _) | (with_reducible exact C4 _) | (with_reducible exact C5 _)))
  refine wpQuiet_nil ?_
  intro w1 hb
  have HD1 : Hid (DeskAt w1 d a ∧ Off (fun x => x = d) W w1) := ⟨HD.out.below hb, Off.of_below hb⟩
  clear hb HD c0 c1 c2 c3 c4 c5 c6 JP C0 C1 C2 C3 C4 C5
  go_wp2_with fail
  refine (HW.out _ HD1.out.1).mono ?_; rintro e w2 ⟨rfl, hd2, ho2⟩
  have HD2 : Hid (DeskAt w2 d b ∧ Off (fun x => x = d) W w2) := ⟨hd2, HD1.out.2.trans ho2 (fun _ h => .inl h)⟩
  clear hd2 ho2
  go_wp2_with fail
  go_ret
  exact ⟨rfl, HD2.out⟩
theorem run_ordered (w0 : World) (a : DS) (n : Nat) (T U : ByteArray) (hv : validB n T U = true) (HP0 : ∀ w, Calls Tryz.prog 8 #[strV a.n a.S a.R, strV a.m a.T a.U] w fun e w' => e = .returned (.tuple #[strV n T U, .bool true]) ∧ Below w.heap.size w w') : RunOK w0 ⟨#[111, 114, 100, 101, 114, 101, 100]⟩ a (a.left n T U) (fmtS T U) :=
  run_plain w0 _ (by decide) a _ _ (plain_ordered w0 a n T U hv HP0)
set_option maxHeartbeats 1000000 in
theorem plain_product (w0 : World) (a : DS) (n : Nat) (T U : ByteArray) (hv : validB n T U = true) (HP0 : ∀ w, Calls Tryz.prog 9 #[strV a.n a.S a.R, strV a.m a.T a.U] w fun e w' => e = .returned (.tuple #[strV n T U, .bool true]) ∧ Below w.heap.size w w') : PlainOK w0 ⟨#[112, 114, 111, 100, 117, 99, 116]⟩ a (a.left n T U) (fmtS T U) := by
  intro W d hd0 hB hD
  have HP := Lib.hid HP0
  have HW := Lib.hid (fun W hD => become_yes n T U hv a W d hD)
  change Hid (∀ W (hD : DeskAt W d a), Calls _ _ _ W fun e w' => e = .returned (.string (fmtS T U)) ∧ DeskAt w' d (a.left n T U) ∧ Off (fun x => x = d) W w') at HW
  obtain ⟨c0, c1, c2, c3, c4, c5, c6, cf⟩ := hD.cells
  have HD := Lib.hid hD
  clear cf hD hB HP0 hv
  generalize fmtS T U = F at *
  obtain ⟨b, hb⟩ : ∃ b : DS, a.left n T U = b := ⟨_, rfl⟩
  rw [hb] at HW ⊢
  clear hb
  unfold strV at HP HW
  have JP := Lib.hid (fun s : Since W => HP.out s.w)
  have C0 := fun s => Since.cell c0 s
  have C1 := fun s => Since.cell c1 s
  have C2 := fun s => Since.cell c2 s
  have C3 := fun s => Since.cell c3 s
  have C4 := fun s => Since.cell c4 s
  have C5 := fun s => Since.cell c5 s
  go_enter Tryz.func65, Tryz.ntmps65
  go_upto_region 7 with fail
  refine wp_region_since_tail 12 (by kernel_rfl) (by kernel_rfl) ?_
  simp only [List.take_succ_cons, List.take_zero, List.drop_succ_cons, List.drop_zero]
  repeat (go_big_quiet_step (first | (with_reducible exact Since.call (JP.out _)) | (with_reducible exact C0 _) | (with_reducible exact C1 _) | (with_reducible exact C2 _) | (with_reducible exact C3 _) | (with_reducible exact C4 _) | (with_reducible exact C5 _)))
  refine wpQuiet_nil ?_
  intro w1 hb
  have HD1 : Hid (DeskAt w1 d a ∧ Off (fun x => x = d) W w1) := ⟨HD.out.below hb, Off.of_below hb⟩
  clear hb HD c0 c1 c2 c3 c4 c5 c6 JP C0 C1 C2 C3 C4 C5
  go_wp2_with fail
  refine (HW.out _ HD1.out.1).mono ?_; rintro e w2 ⟨rfl, hd2, ho2⟩
  have HD2 : Hid (DeskAt w2 d b ∧ Off (fun x => x = d) W w2) := ⟨hd2, HD1.out.2.trans ho2 (fun _ h => .inl h)⟩
  clear hd2 ho2
  go_wp2_with fail
  go_ret
  exact ⟨rfl, HD2.out⟩
theorem run_product (w0 : World) (a : DS) (n : Nat) (T U : ByteArray) (hv : validB n T U = true) (HP0 : ∀ w, Calls Tryz.prog 9 #[strV a.n a.S a.R, strV a.m a.T a.U] w fun e w' => e = .returned (.tuple #[strV n T U, .bool true]) ∧ Below w.heap.size w w') : RunOK w0 ⟨#[112, 114, 111, 100, 117, 99, 116]⟩ a (a.left n T U) (fmtS T U) :=
  run_plain w0 _ (by decide) a _ _ (plain_product w0 a n T U hv HP0)
set_option maxHeartbeats 1000000 in
theorem plain_product_no (w0 : World) (a : DS) (n : Int) (T U : ByteArray) (HP0 : ∀ w, Calls Tryz.prog 9 #[strV a.n a.S a.R, strV a.m a.T a.U] w fun e w' => e = .returned (.tuple #[strV n T U, .bool false]) ∧ Below w.heap.size w w') : PlainOK w0 ⟨#[112, 114, 111, 100, 117, 99, 116]⟩ a a ⟨#[110, 111]⟩ := by
  intro W d hd0 hB hD
  have HP := Lib.hid HP0
  have HW := Lib.hid (fun W hD => become_no n T U a W d hD)
  obtain ⟨c0, c1, c2, c3, c4, c5, c6, cf⟩ := hD.cells
  have HD := Lib.hid hD
  clear cf hD hB HP0
  unfold strV at HP HW
  have JP := Lib.hid (fun s : Since W => HP.out s.w)
  have C0 := fun s => Since.cell c0 s
  have C1 := fun s => Since.cell c1 s
  have C2 := fun s => Since.cell c2 s
  have C3 := fun s => Since.cell c3 s
  have C4 := fun s => Since.cell c4 s
  have C5 := fun s => Since.cell c5 s
  go_enter Tryz.func65, Tryz.ntmps65
  go_upto_region 7 with fail
  refine wp_region_since_tail 12 (by kernel_rfl) (by kernel_rfl) ?_
  simp only [List.take_succ_cons, List.take_zero, List.drop_succ_cons, List.drop_zero]
  repeat (go_big_quiet_step (first | (with_reducible exact Since.call (JP.out _)) | (with_reducible exact C0 _) | (with_reducible exact C1 _) | (with_reducible exact C2 _) | (with_reducible exact C3 _) | (with_reducible exact C4 _) | (with_reducible exact C5 _)))
  refine wpQuiet_nil ?_
  intro w1 hb
  have HD1 : Hid (DeskAt w1 d a ∧ Off (fun x => x = d) W w1) := ⟨HD.out.below hb, Off.of_below hb⟩
  clear hb HD c0 c1 c2 c3 c4 c5 c6 JP C0 C1 C2 C3 C4 C5
  go_wp2_with fail
  refine (HW.out _ HD1.out.1).mono ?_; rintro e w2 ⟨rfl, hd2, ho2⟩
  have HD2 : Hid (DeskAt w2 d a ∧ Off (fun x => x = d) W w2) := ⟨hd2, HD1.out.2.trans ho2 (fun _ h => .inl h)⟩
  clear hd2 ho2
  go_wp2_with fail
  go_ret
  exact ⟨rfl, HD2.out⟩
theorem run_product_no (w0 : World) (a : DS) (n : Int) (T U : ByteArray) (HP0 : ∀ w, Calls Tryz.prog 9 #[strV a.n a.S a.R, strV a.m a.T a.U] w fun e w' => e = .returned (.tuple #[strV n T U, .bool false]) ∧ Below w.heap.size w w') : RunOK w0 ⟨#[112, 114, 111, 100, 117, 99, 116]⟩ a a ⟨#[110, 111]⟩ :=
  run_plain w0 _ (by decide) a _ _ (plain_product_no w0 a n T U HP0)
set_option maxHeartbeats 1000000 in
theorem told_symmetries (w0 : World) (ht : Tab w0) (a : DS) (k : Nat) (hk : k ≤ 1000000000) (HR0 : ∀ w, Calls Tryz.prog 13 #[strV a.n a.S a.R] w fun e w' => e = .returned (.int .i64 (k : Int)) ∧ Below w.heap.size w w') : ToldOK w0 ⟨#[115, 121, 109, 109, 101, 116, 114, 105, 101, 115]⟩ a (numsB [k]) := by
  intro W d hd0 hB hD
  have HD : Hid (DeskAt W d a) := hD
  have HT : Hid (Tab W) := ht.below hB (Nat.le_refl _)
  obtain ⟨c0, c1, c2, c3, c4, c5, c6, cf⟩ := hD.cells
  have HR := Lib.hid HR0
  have HN : Hid (itoS (k : Int) = numsB [k]) := (numsB_one k).symm
  rw [← HN.out]
  have HI := Lib.hid (fun w ht => itoa_any (k : Int) w (by omega) (by omega) ht)
  generalize itoS (k : Int) = E at *
  unfold strV at HR
  clear cf hD hB HR0 hk HN
  generalize hb : a = b at HD ⊢
  obtain ⟨n1, S1, R1, m1, T1, U1, fo⟩ := a
  simp only at *
  clear hb
  go_enter Tryz.func106, Tryz.ntmps106
  go_wp2_with fail
  refine (HR.out _).mono ?_; rintro e w1 ⟨rfl, hb⟩
  have HD1 : Hid (DeskAt w1 d b ∧ Off (fun x => x = d) W w1) := ⟨HD.out.below hb, Off.of_below hb⟩
  have HT1 : Hid (Tab w1) := HT.out.below hb (Nat.le_refl _)
  clear hb HD c0 c1 c2 c3 c4 c5 c6
  go_wp2_with fail
  refine (HI.out _ HT1.out).mono ?_; rintro e w2 ⟨rfl, hb⟩
  have HD2 : Hid (DeskAt w2 d b ∧ Off (fun x => x = d) W w2) := ⟨HD1.out.1.below hb, HD1.out.2.trans (Off.of_below (F := fun _ => False) hb) (fun _ h => h.elim)⟩
  clear hb
  go_wp2_with fail
  go_ret
  exact ⟨rfl, HD2.out⟩
theorem run_symmetries (w0 : World) (ht : Tab w0) (a : DS) (k : Nat) (hk : k ≤ 1000000000) (HR0 : ∀ w, Calls Tryz.prog 13 #[strV a.n a.S a.R] w fun e w' => e = .returned (.int .i64 (k : Int)) ∧ Below w.heap.size w w') : RunOK w0 ⟨#[115, 121, 109, 109, 101, 116, 114, 105, 101, 115]⟩ a a (numsB [k]) :=
  run_plain w0 _ (by decide) a a _ (plain_symmetries w0 a _ (told_symmetries w0 ht a k hk HR0))
set_option maxHeartbeats 1000000 in
theorem told_pieces (w0 : World) (ht : Tab w0) (a : DS) (n : Nat) (hn : a.n = (n : Int)) (hv : validB n a.S a.R = true) : ToldOK w0 ⟨#[112, 105, 101, 99, 101, 115]⟩ a (numsB (clsN (piF n a.R) n).1) := by
  intro W d hd0 hB hD
  have HD : Hid (DeskAt W d a) := hD
  have HT : Hid (Tab W) := ht.below hB (Nat.le_refl _)
  obtain ⟨c0, c1, c2, c3, c4, c5, c6, cf⟩ := hD.cells
  obtain ⟨h1, h8, _, _, _, _⟩ := valid_is hv
  have HC := Lib.hid (fun w => PiecesOf_any n a.S a.R hv w)
  rw [← hn] at HC
  unfold strV at HC
  obtain ⟨l1, l2, l3⟩ := clsN_len (piF n a.R) n
  have HLL : Hid ((clsN (piF n a.R) n).1.length ≤ 100 ∧ ∀ x ∈ (clsN (piF n a.R) n).1, x ≤ 1000000) := ⟨by omega, fun x hx => by have := l3 x hx; omega⟩
  obtain ⟨L, hL⟩ : ∃ L, (clsN (piF n a.R) n).1 = L := ⟨_, rfl⟩
  rw [hL] at HC HLL ⊢
  clear cf hD hB hv l1 l2 l3 hL hn
  generalize hb : a = b at HD ⊢
  obtain ⟨n1, S1, R1, m1, T1, U1, fo⟩ := a
  simp only at *
  clear hb
  go_enter Tryz.func106, Tryz.ntmps106
  go_wp2_with fail
  refine (HC.out _).mono ?_; rintro e w1 ⟨v, rfl, ho, hb⟩
  have HF := Lib.hid (implFmt_nums v L w1 ho.nums HLL.out.1 HLL.out.2 (HT.out.below hb (Nat.le_refl _)))
  have HD1 : Hid (DeskAt w1 d b ∧ Off (fun x => x = d) W w1) := ⟨HD.out.below hb, Off.of_below hb⟩
  clear hb ho
  go_wp2_with fail
  refine HF.out.mono ?_; rintro e w2 ⟨rfl, hb⟩
  have HD2 : Hid (DeskAt w2 d b ∧ Off (fun x => x = d) W w2) := ⟨HD1.out.1.below hb, HD1.out.2.trans (Off.of_below (F := fun _ => False) hb) (fun _ h => h.elim)⟩
  clear hb
  go_wp2_with fail
  go_ret
  exact ⟨rfl, HD2.out⟩
theorem run_pieces (w0 : World) (ht : Tab w0) (a : DS) (n : Nat) (hn : a.n = (n : Int)) (hv : validB n a.S a.R = true) : RunOK w0 ⟨#[112, 105, 101, 99, 101, 115]⟩ a a (numsB (clsN (piF n a.R) n).1) :=
  run_plain w0 _ (by decide) a a _ (plain_pieces w0 a _ (told_pieces w0 ht a n hn hv))
set_option maxHeartbeats 1000000 in
theorem told_stable (w0 : World) (ht : Tab w0) (a : DS) (n : Nat) (hn : a.n = (n : Int)) (hv : validB n a.S a.R = true) : ToldOK w0 ⟨#[115, 116, 97, 98, 108, 101]⟩ a (numsB (Col.after [stOf n a.S a.R] (Col.stab (stOf n a.S a.R))) ++ ⟨#[32, 47, 32]⟩ ++ numsB [Col.stab (stOf n a.S a.R)]) := by
  intro W d hd0 hB hD
  have HD : Hid (DeskAt W d a) := hD
  have HT : Hid (Tab W) := ht.below hB (Nat.le_refl _)
  obtain ⟨c0, c1, c2, c3, c4, c5, c6, cf⟩ := hD.cells
  obtain ⟨h1, h8, _, _, _, _⟩ := valid_is hv
  have HC := Lib.hid (fun w => StableColours_any n a.S a.R hv w)
  rw [← hn] at HC
  unfold strV at HC
  have HLL : Hid ((Col.after [stOf n a.S a.R] (Col.stab (stOf n a.S a.R))).length ≤ 100 ∧ ∀ x ∈ Col.after [stOf n a.S a.R] (Col.stab (stOf n a.S a.R)), x ≤ 1000000) := ⟨by rw [Col.after_len]; show n + 0 ≤ _; omega, fun x hx => by have h := after_lt_s (stOf n a.S a.R) _ h1 hx; have : (stOf n a.S a.R).n = n := rfl; omega⟩
  have hst : Col.stab (stOf n a.S a.R) ≤ 1000000 := Nat.le_trans (stab_le_s (stOf n a.S a.R)) (by omega)
  rw [numsB_one]
  obtain ⟨K, hK⟩ : ∃ K, Col.stab (stOf n a.S a.R) = K := ⟨_, rfl⟩
  rw [hK] at HC HLL hst ⊢
  obtain ⟨L, hL⟩ : ∃ L, Col.after [stOf n a.S a.R] K = L := ⟨_, rfl⟩
  rw [hL] at HC HLL ⊢
  have HI := Lib.hid (fun w ht => itoa_any (K : Int) w (by omega) (by omega) ht)
  have hz := itoS_size (K : Int) (by omega) (by omega)
  generalize itoS (K : Int) = E at *
  have hzL := numsB_size L HLL.out.2
  have hzL2 : (numsB L).size ≤ 2300 := by have := HLL.out.1; omega
  have hz3 : (numsB L ++ ⟨#[32, 47, 32]⟩).size ≤ 2400 := by rw [ByteArray.size_append]; show (numsB L).size + 3 ≤ _; omega
  clear cf hD hB hv hL hn hK hst hzL h1 h8
  have HNL := Lib.hid (fun v w hv ht => implFmt_nums v L w hv HLL.out.1 HLL.out.2 ht)
  generalize numsB L = NL at *
  generalize hb : a = b at HD ⊢
  obtain ⟨n1, S1, R1, m1, T1, U1, fo⟩ := a
  simp only at *
  clear hb
  go_enter Tryz.func106, Tryz.ntmps106
  go_wp2_with fail
  refine (HC.out _).mono ?_; rintro e w1 ⟨v, rfl, ho, hb⟩
  have HN := Lib.hid ho.nums
  have HD1 : Hid (DeskAt w1 d b ∧ Off (fun x => x = d) W w1) := ⟨HD.out.below hb, Off.of_below hb⟩
  have HT1 : Hid (Tab w1) := HT.out.below hb (Nat.le_refl _)
  clear hb ho HD c0 c1 c2 c3 c4 c5 c6
  go_wp2_with fail
  refine (HNL.out v _ HN.out HT1.out).mono ?_; rintro e w2 ⟨rfl, hb⟩
  have HD2 : Hid (DeskAt w2 d b ∧ Off (fun x => x = d) W w2) := ⟨HD1.out.1.below hb, HD1.out.2.trans (Off.of_below (F := fun _ => False) hb) (fun _ h => h.elim)⟩
  have HT2 : Hid (Tab w2) := HT1.out.below hb (Nat.le_refl _)
  clear hb
  go_wp2_with fail
  refine (HI.out _ HT2.out).mono ?_; rintro e w3 ⟨rfl, hb⟩
  have HD3 : Hid (DeskAt w3 d b ∧ Off (fun x => x = d) W w3) := ⟨HD2.out.1.below hb, HD2.out.2.trans (Off.of_below (F := fun _ => False) hb) (fun _ h => h.elim)⟩
  clear hb
  go_wp2_with fail
  go_ret
  exact ⟨rfl, HD3.out⟩
theorem run_stable (w0 : World) (ht : Tab w0) (a : DS) (n : Nat) (hn : a.n = (n : Int)) (hv : validB n a.S a.R = true) : RunOK w0 ⟨#[115, 116, 97, 98, 108, 101]⟩ a a (numsB (Col.after [stOf n a.S a.R] (Col.stab (stOf n a.S a.R))) ++ ⟨#[32, 47, 32]⟩ ++ numsB [Col.stab (stOf n a.S a.R)]) :=
  run_plain w0 _ (by decide) a a _ (plain_stable w0 a _ (told_stable w0 ht a n hn hv))
theorem shHd_ok {n : Nat} {S R : ByteArray} {m : Nat} {T U : ByteArray} (h : ssB n S R m T U = true) (h8 : n ≤ 8) : (shHd n S R m T U).length ≤ 100 ∧ ∀ x ∈ shHd n S R m T U, x ≤ 1000000 := by
  unfold ssB at h
  simp only [Bool.and_eq_true, Int.toNat_natCast] at h
  obtain ⟨_, h⟩ := h
  unfold shHd
  cases hl : Gs.shapes (stOf n S R) (stOf m T U) with
  | nil => rw [hl] at h; cases h
  | cons o ls =>
    have hm : o ∈ Gs.shapes (stOf n S R) (stOf m T U) := by rw [hl]; exact List.mem_cons_self
    obtain ⟨ht, hn⟩ := Gs.shapes_mem.1 hm
    have hn' : o.length = n := hn
    refine ⟨by show o.length ≤ _; omega, fun x hx => ?_⟩
    have : x < n := ht.lt x hx
    omega
set_option maxHeartbeats 1000000 in
theorem told_shape (w0 : World) (ht : Tab w0) (a : DS) (n m : Nat) (hn : a.n = (n : Int)) (hm : a.m = (m : Int)) (hv : validB n a.S a.R = true) (hu : validB m a.T a.U = true) : ToldOK w0 ⟨#[115, 104, 97, 112, 101]⟩ a (if ssB n a.S a.R m a.T a.U = true then numsB (shHd n a.S a.R m a.T a.U) else ⟨#[110, 111, 110, 101]⟩) := by
  intro W d hd0 hB hD
  have HD : Hid (DeskAt W d a) := hD
  have HT : Hid (Tab W) := ht.below hB (Nat.le_refl _)
  obtain ⟨c0, c1, c2, c3, c4, c5, c6, cf⟩ := hD.cells
  obtain ⟨h1, h8, _, _, _, _⟩ := valid_is hv
  have HC := Lib.hid (fun w => SameShape_list n a.S a.R m a.T a.U hv hu w)
  have HLL : Hid (ssB n a.S a.R m a.T a.U = true → (shHd n a.S a.R m a.T a.U).length ≤ 100 ∧ ∀ x ∈ shHd n a.S a.R m a.T a.U, x ≤ 1000000) := fun h => shHd_ok h h8
  have HDL : Hid (∀ W', Below W.heap.size W W' → (W'.cell? ⟨d, 0, none⟩ = some (.int .i64 a.n) ∧ W'.cell? ⟨d, 1, none⟩ = some (.string a.S) ∧ W'.cell? ⟨d, 2, none⟩ = some (.string a.R) ∧ W'.cell? ⟨d, 3, none⟩ = some (.int .i64 a.m) ∧ W'.cell? ⟨d, 4, none⟩ = some (.string a.T) ∧ W'.cell? ⟨d, 5, none⟩ = some (.string a.U))) := fun W' hb => by
    obtain ⟨c0, c1, c2, c3, c4, c5, c6, cf⟩ := (hD.below hb).cells
    exact ⟨c0, c1, c2, c3, c4, c5⟩
  obtain ⟨L, hL⟩ : ∃ L, shHd n a.S a.R m a.T a.U = L := ⟨_, rfl⟩
  obtain ⟨c, hcs⟩ : ∃ c, ssB (n : Int) a.S a.R (m : Int) a.T a.U = c := ⟨_, rfl⟩
  rw [hL] at HC HLL ⊢
  rw [hcs] at HC HLL ⊢
  rw [← hn, ← hm] at HC
  unfold strV at HC
  clear cf hD hB hv hu hn hm h1 h8 hL hcs
  generalize hb : a = b at HD ⊢
  obtain ⟨n1, S1, R1, m1, T1, U1, fo⟩ := a
  simp only at *
  clear hb
  cases c
  all_goals
    go_enter Tryz.func106, Tryz.ntmps106
    go_upto_region 29 with fail
    go_region_held3 (fun W' => W'.cell? ⟨d, 0, none⟩ = some (.int .i64 n1) ∧ W'.cell? ⟨d, 1, none⟩ = some (.string S1) ∧ W'.cell? ⟨d, 2, none⟩ = some (.string R1) ∧ W'.cell? ⟨d, 3, none⟩ = some (.int .i64 m1) ∧ W'.cell? ⟨d, 4, none⟩ = some (.string T1) ∧ W'.cell? ⟨d, 5, none⟩ = some (.string U1))
      (first | exact HDL.out _ HB1.out | exact HDL.out _ (Below.refl _ _).drew | go_keep)
      (first | (go_at_call 15; refine (HC.out _).mono ?_; rintro e w1 ⟨v, rfl, hn, hb⟩; have HB1 : Hid (Below W.heap.size W w1) := (Below.refl _ _).drew.trans hb; have HN1 := Lib.hid hn; clear hb hn))
    have HD1 : Hid (DeskAt w1 d b ∧ Off (fun x => x = d) W w1) := ⟨HD.out.below HB1.out, Off.of_below HB1.out⟩
    have HT1 : Hid (Tab w1) := HT.out.below HB1.out (Nat.le_refl _)
    clear HDL HB1 c0 c1 c2 c3 c4 c5 c6
  · clear HN1 HLL
    go_wp2_with fail
    go_ret
    exact ⟨rfl, HD1.out⟩
  · have HF := Lib.hid (implFmt_nums v L w1 (HN1.out trivial) (HLL.out trivial).1 (HLL.out trivial).2 HT1.out)
    clear HN1 HLL HT1
    go_wp2_with fail
    refine HF.out.mono ?_; rintro e w2 ⟨rfl, hb⟩
    have HD2 : Hid (DeskAt w2 d b ∧ Off (fun x => x = d) W w2) := ⟨HD1.out.1.below hb, HD1.out.2.trans (Off.of_below (F := fun _ => False) hb) (fun _ h => h.elim)⟩
    clear hb
    go_wp2_with fail
    go_ret
    exact ⟨rfl, HD2.out⟩
theorem run_shape (w0 : World) (ht : Tab w0) (a : DS) (n m : Nat) (hn : a.n = (n : Int)) (hm : a.m = (m : Int)) (hv : validB n a.S a.R = true) (hu : validB m a.T a.U = true) : RunOK w0 ⟨#[115, 104, 97, 112, 101]⟩ a a (if ssB n a.S a.R m a.T a.U = true then numsB (shHd n a.S a.R m a.T a.U) else ⟨#[110, 111, 110, 101]⟩) :=
  run_plain w0 _ (by decide) a a _ (plain_shape w0 a _ (told_shape w0 ht a n m hn hm hv hu))
end Go.Proofs.YtdonjgjkhndfcaaGreatDoor
