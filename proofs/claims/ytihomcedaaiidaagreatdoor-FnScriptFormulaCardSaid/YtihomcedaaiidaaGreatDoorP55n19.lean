/- Contracts of the program's functions and what they compute: part 19. Conditions: those that each theorem states. -/
import Derived.Test.YtihomcedaaiidaaGreatDoorP55n6
import Derived.Test.YtihomcedaaiidaaGreatDoorP55n11
import Derived.Test.YtihomcedaaiidaaGreatDoorP55n16
import Derived.Test.YtihomcedaaiidaaGreatDoorP55n18
import Derived.Laws.IdiomCopy
namespace Go.Proofs.YtihomcedaaiidaaGreatDoor
open Go.RowKit
set_option linter.unusedVariables false
set_option maxRecDepth 100000
theorem new_holder_map (w : World) : (Instr.makeMap 117 none).run Tryz.prog w = .ok (.map (some w.heap.size)) (w.alloc (.map #[] 0)) := by kernel_rfl
theorem copy_nil (w : World) (x : Nat) : (Builtin.copy_ #[37, 37] 3 #[.slice (some ⟨x, 0, none⟩) 4 4, .slice none 0 0]).run Tryz.prog w = .ok (.int .i64 0) w := by kernel_rfl
theorem newHolder_any (n : Nat) (S R : ByteArray) (hv : validB n S R = true) (F : Nat → Prop) (w : World) (hF : ∀ b, F b → b < w.heap.size) :
    Calls Tryz.prog 49 #[strV n S R] w fun en w' => ∃ hb kb, en = .returned (ptrV hb) ∧ w.heap.size ≤ kb ∧ Base (fun b => F b ∨ b = hb) (fun b => b = kb) w' hb kb n S R ∧ Below w.heap.size w w' := by
  obtain ⟨h1, h8, hS, hR, _, _⟩ := valid_is hv
  have HF := Lib.hid hF
  clear hF
  unfold strV
  have HB : Hid (Base (fun b => F b ∨ b = w.heap.size + 2) (fun b => b = w.heap.size + 1) (((w.alloc (.cells #[.int .i64 (n : Int), .string S, .string R] 24)).alloc (.map #[] 0)).alloc (.cells #[.int .i64 (n : Int), .string S, .string R, .map (some (w.heap.size + 1))] 119)) (w.heap.size + 2) (w.heap.size + 1) n S R ∧ Below w.heap.size w (((w.alloc (.cells #[.int .i64 (n : Int), .string S, .string R] 24)).alloc (.map #[] 0)).alloc (.cells #[.int .i64 (n : Int), .string S, .string R, .map (some (w.heap.size + 1))] 119))) := by
    refine ⟨⟨?_, .inr rfl, ⟨rfl, ?_, ?_, ?_, #[], 0, ?_, fun x hx => by simp at hx, fun x hx => by simp at hx⟩, hS, hR, h1, h8⟩, (((Below.refl w.heap.size w).alloc (Nat.le_refl _) _).alloc (by simp) _).alloc (by simp; omega) _⟩
    · have := heap_alloc_new ((w.alloc (.cells #[.int .i64 (n : Int), .string S, .string R] 24)).alloc (.map #[] 0)) (.cells #[.int .i64 (n : Int), .string S, .string R, .map (some (w.heap.size + 1))] 119)
      simpa [HoldAt] using this
    · rintro b rfl; simp
    · rintro b (hb | rfl)
      · have := HF.out b hb; simp; omega
      · simp
    · rintro b (hb | rfl) h
      · have := HF.out b hb; omega
      · omega
    · have h0 := heap_alloc_new (w.alloc (.cells #[.int .i64 (n : Int), .string S, .string R] 24)) (.map #[] 0)
      have h1 := Below.block ((Below.refl ((w.alloc (.cells #[.int .i64 (n : Int), .string S, .string R] 24)).alloc (.map #[] 0)).heap.size ((w.alloc (.cells #[.int .i64 (n : Int), .string S, .string R] 24)).alloc (.map #[] 0))).alloc (Nat.le_refl _) (.cells #[.int .i64 (n : Int), .string S, .string R, .map (some (w.heap.size + 1))] 119)) (w.heap.size + 1) (by simp)
      rw [h1]
      simpa using h0
  have nm := new_holder_map (w.alloc (.cells #[.int .i64 (n : Int), .string S, .string R] 24))
  go_enter Tryz.func49, Tryz.ntmps49
  go_wp2_with fail
  go_ret
  exact ⟨_, _, rfl, by omega, HB.out.1, HB.out.2⟩
/-- A list of no elements. -/
theorem holds_nil (φ : Fm.T) (F G : Nat → Prop) (w : World) (hb kb n : Nat) (S R : ByteArray) (p : Nat) (hB : Base F G w hb kb n S R) (hT : Tree F w φ p) :
    Calls Tryz.prog 50 #[ptrV hb, ptrV p, .slice none 0 0] w fun en w' => en = .returned (.bool (Fm.holds (stOf n S R) φ (fun _ => 0))) ∧ EverP F G kb (stOf n S R) w w' := by
  have hbel : Below w.heap.size w (w.alloc (.cells #[.int .i64 0, .int .i64 0, .int .i64 0, .int .i64 0] 77)) := (Below.refl w.heap.size w).alloc (Nat.le_refl _) _
  have HC := Lib.hid (true_any φ F G _ hb kb n S R p (fun _ => 0) (hB.below hbel) (hT.below hbel) (fun _ => by have := hB.n1; omega))
  have HE := Lib.hid (EverP.of_below hB.memo hbel)
  clear hB hT hbel
  unfold ptrV envV at HC
  unfold ptrV
  have cn := copy_nil (w.alloc (.cells #[.int .i64 0, .int .i64 0, .int .i64 0, .int .i64 0] 77)) w.heap.size
  go_enter Tryz.func50, Tryz.ntmps50
  go_wp2_with fail
  refine HC.out.mono ?_; rintro _ w1 ⟨rfl, hev⟩
  have HEND := Lib.hid (HE.out.then (fun b hb => .inl hb) hev)
  clear hev
  go_wp2_with fail
  go_ret
  exact ⟨rfl, HEND.out⟩
theorem index_nil (v : Value) (w : World) : Calls Tryz.prog 127 #[.slice none 0 0, v] w fun en w' => en = .returned (.int .i64 (-1)) ∧ w = w' := by
  go_enter Tryz.func127, Tryz.ntmps127
  go_wp2_with fail
  go_loopw [8, 5] (fun i _ wr => i = .int .i64 0 ∧ wr = w) (fun _ _ _ => 0)
  case atStart => exact ⟨rfl, rfl⟩
  case round =>
    obtain ⟨rfl, rfl⟩ := hrel
    go_wp2_with fail
    go_ret
    exact ⟨rfl, rfl⟩
theorem contains_nil (v : Value) (w : World) : Calls Tryz.prog 85 #[.slice none 0 0, v] w fun en w' => en = .returned (.bool false) ∧ w = w' := by
  go_enter Tryz.func85, Tryz.ntmps85
  go_wp2_with fail
  refine (index_nil _ _).mono ?_; rintro _ _ ⟨rfl, rfl⟩
  go_wp2_with fail
  go_ret
  exact ⟨rfl, rfl⟩
theorem areElements_nil (n : Nat) (S R : ByteArray) (w : World) : Calls Tryz.prog 48 #[strV n S R, .slice none 0 0] w fun en w' => en = .returned (.bool true) ∧ Below w.heap.size w w' := by
  unfold strV
  have HB : Hid (Below w.heap.size w (w.alloc (.cells #[.int .i64 (n : Int), .string S, .string R] 24))) := (Below.refl w.heap.size w).alloc (Nat.le_refl _) _
  go_enter Tryz.func48, Tryz.ntmps48
  go_wp2_with fail
  refine (contains_nil _ _).mono ?_; rintro _ _ ⟨rfl, rfl⟩
  go_wp2_with fail
  go_ret
  exact ⟨rfl, HB.out⟩
end Go.Proofs.YtihomcedaaiidaaGreatDoor
namespace Go.Proofs.YtihomcedaaiidaaGreatDoor
open Go.RowKit
set_option linter.unusedVariables false
set_option maxRecDepth 100000
/-- The elements x and y for the first two variables. -/
def env2 (x y : Nat) : Fm.Env := fun i => if i = 0 then x else if i = 1 then y else 0
end Go.Proofs.YtihomcedaaiidaaGreatDoor
namespace Go.Proofs.YtihomcedaaiidaaGreatDoor
open Go.RowKit
set_option linter.unusedVariables false
set_option maxRecDepth 100000
theorem implHoldsAt0 (f : ByteArray) (hf : f.size ≤ 9223372036854775807) (n : Nat) (S R : ByteArray) (hv : validB n S R = true) (w : World) :
    Calls Tryz.prog 25 #[strV n S R, .string f, .slice none 0 0] w fun en w' => en = .returned (.tuple #[.bool (hin f (stOf n S R)).1, .bool (hin f (stOf n S R)).2]) ∧ Below w.heap.size w w' := by
  obtain ⟨h1, h8, hS, hR, _, _⟩ := valid_is hv
  have HIS : Hid (∀ w, Calls Tryz.prog 30 #[strV n S R] w fun e w' => e = .returned (.bool true) ∧ Below w.heap.size w w') := fun w => by
    have := isStructure_any n S R w (by omega) (by rw [hR]; have := Nat.mul_le_mul h8 h8; omega)
    rw [hv] at this
    exact this
  have HAE := Lib.hid (fun w => areElements_nil n S R w)
  have HNH := Lib.hid (fun F w hF => newHolder_any n S R hv F w hF)
  have HHN := Lib.hid (fun φ F G w hb kb p hB hT => holds_nil φ F G w hb kb n S R p hB hT)
  have HB : Hid (SBlk (boxS w n S R) w.heap.size n S R ∧ Below w.heap.size w (boxS w n S R)) := ⟨boxS_SBlk _ _ _ _, boxS_below _ _ _ _⟩
  obtain ⟨W, hW⟩ : ∃ W, boxS w n S R = W := ⟨_, rfl⟩
  rw [hW] at HB
  unfold boxS at hW
  obtain ⟨x3, hx3⟩ : ∃ x, w.heap.size = x := ⟨_, rfl⟩
  rw [hx3] at HB
  have HX3 := Lib.hid hx3
  have HW := Lib.hid hW
  clear hW hx3
  unfold strV at HIS HAE HNH
  unfold strV
  go_enter Tryz.func25, Tryz.ntmps25
  go_upto_region 1 with fail
  rw [HW.out, HX3.out]
  go_wp2_with fail
  refine (parseFormula_any f _ hf).mono ?_
  rintro en w2 ⟨hb2, hor⟩
  have HB2 : Hid (SBlk w2 x3 n S R ∧ Below w.heap.size w w2) := ⟨HB.out.1.below hb2 HB.out.1.cells.2.2.2.2.2.2, (by rw [HX3.out]; exact HB.out.2.trans (hb2.mono (by have := HB.out.2.size; rw [HX3.out] at this; exact this)))⟩
  clear hb2
  rcases hor with ⟨hr, rfl⟩ | ⟨φ, p, hr, rfl, ht⟩
  · have HI : Hid (hin f (stOf n S R) = (false, false)) := by show _ = _; unfold hin; rw [hr]
    clear hr
    go_wp2_with fail
    go_ret2
    exact ⟨ret_bb (by rw [HI.out]) (by rw [HI.out]), HB2.out.2⟩
  · have HI : Hid (hin f (stOf n S R) = if Fm.free φ = 0 then (Fm.holds (stOf n S R) φ (fun _ => 0), true) else (false, false)) := by show _ = _; unfold hin; rw [hr]
    clear hr
    have HT := Lib.hid ht
    clear ht
    have s0 := HB2.out.1.cells.1
    have s1 := HB2.out.1.cells.2.1
    have s2 := HB2.out.1.cells.2.2.1
    unfold ptrV
    go_wp2_with fail
    refine (HIS.out _).mono ?_; rintro _ w3 ⟨rfl, hb3⟩
    have HB3 : Hid (SBlk w3 x3 n S R ∧ Below w.heap.size w w3) := ⟨HB2.out.1.below hb3 HB2.out.1.cells.2.2.2.2.2.2, HB2.out.2.trans (hb3.mono HB2.out.2.size)⟩
    have HT3 := Lib.hid (HT.out.below hb3)
    clear s0 s1 s2 hb3
    have s0 := HB3.out.1.cells.1
    have s1 := HB3.out.1.cells.2.1
    have s2 := HB3.out.1.cells.2.2.1
    go_wp2_with fail
    refine (HAE.out _).mono ?_; rintro _ w4 ⟨rfl, hb4⟩
    have HB4 : Hid (SBlk w4 x3 n S R ∧ Below w.heap.size w w4) := ⟨HB3.out.1.below hb4 HB3.out.1.cells.2.2.2.2.2.2, HB3.out.2.trans (hb4.mono HB3.out.2.size)⟩
    have HT4 := Lib.hid (HT3.out.below hb4)
    clear s0 s1 s2 hb4
    have s0 := HB4.out.1.cells.1
    have s1 := HB4.out.1.cells.2.1
    have s2 := HB4.out.1.cells.2.2.1
    obtain ⟨v, u, qs, nd, _⟩ := HT4.out.node
    have c3 := nd.cells.2.2.2.1
    have hfl := Fm.free_lt φ
    have HTI := Lib.hid HT4.out.tight
    clear nd
    have HHN2 := Lib.hid (HHN.out φ)
    generalize Fm.free φ = fr at *
    generalize Fm.holds (stOf n S R) φ (fun _ => 0) = tr at *
    by_cases h0 : fr = 0
    · subst h0
      have HI2 : Hid (hin f (stOf n S R) = (tr, true)) := HI.out.trans (if_pos rfl)
      go_wp2_with fail
      refine (HNH.out (fun b => W.heap.size ≤ b ∧ b < w4.heap.size) w4 (fun b hb => hb.2)).mono ?_
      rintro _ w5 ⟨hb, kb, rfl, hkb, hbase, hb5⟩
      have HBS := Lib.hid hbase
      have HT5 := Lib.hid ((HTI.out.below hb5).mono (F' := fun b => (W.heap.size ≤ b ∧ b < w4.heap.size) ∨ b = hb) (fun b h => .inl h))
      have HB5 : Hid (Below w.heap.size w w5) := HB4.out.2.trans (hb5.mono HB4.out.2.size)
      have HKB : Hid (w.heap.size ≤ kb) := Nat.le_trans HB4.out.2.size hkb
      clear s0 s1 s2 c3 hbase hb5 hkb
      have HCC := HHN2.out _ _ _ _ _ _ HBS.out HT5.out
      unfold ptrV at HCC
      have HCD := Lib.hid HCC
      clear HCC
      unfold ptrV
      go_wp2_with fail
      refine HCD.out.mono ?_; rintro _ w6 ⟨rfl, hev⟩
      have HEND : Hid (Below w.heap.size w w6) := HB5.out.trans (hev.off.below HB5.out.size (fun b hb => by rw [hb]; exact HKB.out))
      clear hev
      go_wp2_with fail
      go_ret2
      exact ⟨ret_bb (by rw [HI2.out]) (by rw [HI2.out]), HEND.out⟩
    · have HI2 : Hid (hin f (stOf n S R) = (false, false)) := HI.out.trans (if_neg h0)
      go_wp2_with fail
      go_ret2
      exact ⟨ret_bb (by rw [HI2.out]) (by rw [HI2.out]), HB4.out.2⟩
theorem implHoldsIn_any (f : ByteArray) (hf : f.size ≤ 9223372036854775807) (n : Nat) (S R : ByteArray) (hv : validB n S R = true) (w : World) :
    Calls Tryz.prog 5 #[strV n S R, .string f] w fun en w' => en = .returned (.tuple #[.bool (hin f (stOf n S R)).1, .bool (hin f (stOf n S R)).2]) ∧ Below w.heap.size w w' := by
  have HC := Lib.hid (fun w => implHoldsAt0 f hf n S R hv w)
  unfold strV at HC
  unfold strV
  go_enter Tryz.func5, Tryz.ntmps5
  go_wp2_with fail
  refine (HC.out _).mono ?_; rintro _ w1 ⟨rfl, hb1⟩
  go_wp2_with fail
  go_ret2
  refine ⟨rfl, ?_⟩
  exact Below.trans ((Below.refl w.heap.size w).alloc (Nat.le_refl _) _) (hb1.mono (by simp))
end Go.Proofs.YtihomcedaaiidaaGreatDoor
