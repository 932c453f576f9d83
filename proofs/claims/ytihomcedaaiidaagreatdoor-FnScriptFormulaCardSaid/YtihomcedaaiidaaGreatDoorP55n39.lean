/- Contracts of the program's functions and what they compute: part 39. Conditions: those that each theorem states. -/
import Derived.Test.YtihomcedaaiidaaGreatDoorP55n1
import Derived.Test.YtihomcedaaiidaaGreatDoorP55n6
import Derived.Test.YtihomcedaaiidaaGreatDoorP55n11
import Derived.Test.YtihomcedaaiidaaGreatDoorP55n4
import Derived.Test.YtihomcedaaiidaaGreatDoorP55n12
import Derived.Test.YtihomcedaaiidaaGreatDoorP55n20
import Derived.Test.YtihomcedaaiidaaGreatDoorP55n25
import Derived.Test.YtihomcedaaiidaaGreatDoorP55n28
import Derived.Test.YtihomcedaaiidaaGreatDoorP55n5
import Derived.Test.YtihomcedaaiidaaGreatDoorP55n14
import Derived.Test.YtihomcedaaiidaaGreatDoorP55n21
namespace Go.Proofs.YtihomcedaaiidaaGreatDoor
open Go.RowKit
set_option linter.unusedVariables false
set_option maxRecDepth 100000
theorem vb_ge (v : Fin 4) : 33 ≤ (Fm.vb v).toNat := by revert v; decide
theorem text_ge : ∀ (φ : Fm.T) (c : UInt8), c ∈ Fm.text φ → 33 ≤ c.toNat
  | .lit b, c, h => by
    cases b
    · simp [Fm.text] at h; subst h; decide
    · simp [Fm.text] at h; subst h; decide
  | .set v, c, h => by
    simp [Fm.text] at h
    rcases h with rfl | rfl
    · decide
    · exact vb_ge v
  | .rel e v w, c, h => by
    cases e
    all_goals
      simp [Fm.text] at h
      rcases h with rfl | rfl | rfl
      · decide
      · exact vb_ge v
      · exact vb_ge w
  | .neg f, c, h => by
    simp [Fm.text] at h
    rcases h with rfl | h
    · decide
    · exact text_ge f c h
  | .bin o f g, c, h => by
    cases o
    all_goals
      simp [Fm.text] at h
      rcases h with rfl | h | h
      · decide
      · exact text_ge f c h
      · exact text_ge g c h
  | .qu q v f, c, h => by
    simp [Fm.text] at h
    rcases h with rfl | rfl | h
    · cases q <;> decide
    · exact vb_ge v
    · exact text_ge f c h
theorem read_ge {f : ByteArray} {φ : Fm.T} (h : readB f = some φ) : ∀ c ∈ f.data.toList, 33 ≤ c.toNat := by
  unfold readB at h
  rw [(Fm.read_iff.1 h).1]
  exact fun c hc => text_ge φ c hc
theorem ge_no {l : List UInt8} (h : ∀ c ∈ l, 33 ≤ c.toNat) : (10 : UInt8) ∉ l ∧ (32 : UInt8) ∉ l := by
  constructor
  · intro hm
    have := h 10 hm
    revert this; decide
  · intro hm
    have := h 32 hm
    revert this; decide
end Go.Proofs.YtihomcedaaiidaaGreatDoor

namespace Go.Proofs.YtihomcedaaiidaaGreatDoor
open Go.RowKit
set_option linter.unusedVariables false
set_option maxRecDepth 100000
/-- The lines of the script. -/
def formLines (s t f : ByteArray) : List ByteArray := [(⟨#[108, 101, 102, 116, 32]⟩ : ByteArray) ++ s, (⟨#[114, 105, 103, 104, 116, 32]⟩ : ByteArray) ++ t, (⟨#[102, 111, 114, 109, 117, 108, 97, 32]⟩ : ByteArray) ++ f, (⟨#[115, 104, 111, 119]⟩ : ByteArray), (⟨#[114, 97, 110, 107]⟩ : ByteArray), (⟨#[104, 111, 108, 100, 115]⟩ : ByteArray), (⟨#[112, 117, 115, 104]⟩ : ByteArray), (⟨#[104, 111, 108, 100, 115]⟩ : ByteArray), (⟨#[114, 101, 118, 101, 114, 115, 101]⟩ : ByteArray)]
theorem formScript (s t f : ByteArray) : (⟨#[108, 101, 102, 116, 32]⟩ : ByteArray) ++ s ++ (⟨#[10, 114, 105, 103, 104, 116, 32]⟩ : ByteArray) ++ t ++ (⟨#[10, 102, 111, 114, 109, 117, 108, 97, 32]⟩ : ByteArray) ++ f ++ (⟨#[10, 115, 104, 111, 119, 10, 114, 97, 110, 107, 10, 104, 111, 108, 100, 115, 10, 112, 117, 115, 104, 10, 104, 111, 108, 100, 115, 10, 114, 101, 118, 101, 114, 115, 101, 10]⟩ : ByteArray) = linesB (formLines s t f) := by
  apply ByteArray.ext
  apply Array.toList_inj.1
  simp [linesB, formLines, linesL, ByteArray.data_append, Array.toList_append]
theorem formLines_no (s t f : ByteArray) (hs : (10 : UInt8) ∉ s.data.toList) (ht : (10 : UInt8) ∉ t.data.toList) (hf : (10 : UInt8) ∉ f.data.toList) : ∀ l ∈ formLines s t f, (10 : UInt8) ∉ l.data.toList := by
  intro l hl
  simp only [formLines, List.mem_cons, List.not_mem_nil, or_false] at hl
  rcases hl with rfl | rfl | rfl | rfl | rfl | rfl | rfl | rfl | rfl
  · simp [ByteArray.data_append, Array.toList_append, hs]
  · simp [ByteArray.data_append, Array.toList_append, ht]
  · simp [ByteArray.data_append, Array.toList_append, hf]
  · decide
  · decide
  · decide
  · decide
  · decide
  · decide
theorem formLines_ne (s t f : ByteArray) : ∀ l ∈ formLines s t f, l ≠ ByteArray.empty := by
  intro l hl
  simp only [formLines, List.mem_cons, List.not_mem_nil, or_false] at hl
  rcases hl with rfl | rfl | rfl | rfl | rfl | rfl | rfl | rfl | rfl
  · intro h; have := congrArg (fun b : ByteArray => b.data.toList.length) h; simp [ByteArray.data_append, Array.toList_append] at this
  · intro h; have := congrArg (fun b : ByteArray => b.data.toList.length) h; simp [ByteArray.data_append, Array.toList_append] at this
  · intro h; have := congrArg (fun b : ByteArray => b.data.toList.length) h; simp [ByteArray.data_append, Array.toList_append] at this
  · decide
  · decide
  · decide
  · decide
  · decide
  · decide
/-- The answers of the script. -/
def formAns (sh rw ti tw g h : ByteArray) : List ByteArray := [(⟨#[111, 107]⟩ : ByteArray), (⟨#[111, 107]⟩ : ByteArray), (⟨#[111, 107]⟩ : ByteArray), sh, rw, ti ++ (⟨#[32]⟩ : ByteArray) ++ tw, g, ti ++ (⟨#[32]⟩ : ByteArray) ++ tw, h]
theorem formOut (sh rw ti tw g h : ByteArray) : (⟨#[111, 107, 10, 111, 107, 10, 111, 107, 10]⟩ : ByteArray) ++ sh ++ (⟨#[10]⟩ : ByteArray) ++ rw ++ (⟨#[10]⟩ : ByteArray) ++ ti ++ (⟨#[32]⟩ : ByteArray) ++ (tw ++ ⟨#[10]⟩) ++ g ++ (⟨#[10]⟩ : ByteArray) ++ ti ++ (⟨#[32]⟩ : ByteArray) ++ (tw ++ ⟨#[10]⟩) ++ (h ++ ⟨#[10]⟩) = outT (formAns sh rw ti tw g h) := by
  apply ByteArray.ext
  apply Array.toList_inj.1
  simp [outT, formAns, ByteArray.data_append, Array.toList_append]
end Go.Proofs.YtihomcedaaiidaaGreatDoor

namespace Go.Proofs.YtihomcedaaiidaaGreatDoor
open Go.RowKit
set_option linter.unusedVariables false
set_option maxRecDepth 100000
theorem read_size {f : ByteArray} {φ : Fm.T} (h : readB f = some φ) : f.size ≤ 4000 := by
  have h := (Fm.read_iff (s := f.data.toList)).1 h
  have : f.size = f.data.toList.length := by simp
  omega
theorem hin_some {f : ByteArray} {φ : Fm.T} (h : readB f = some φ) (h0 : Fm.free φ = 0) (a : Gs.St) : hin f a = (Fm.holds a φ (fun _ => 0), true) := by
  unfold hin; rw [h]; simp only [h0, if_true]
end Go.Proofs.YtihomcedaaiidaaGreatDoor

namespace Go.Proofs.YtihomcedaaiidaaGreatDoor
open Go.RowKit
set_option linter.unusedVariables false
set_option maxRecDepth 100000
set_option maxHeartbeats 1000000 in
theorem makeStructure_set (n : Nat) (hn : n ≤ 8) (S0 R0 : ByteArray) (hS0 : S0.size = n) (k2 : FuncId) (c2 : Array Value) (r : Nat → Nat → Bool) (w : World)
    (hk2 : ∀ (args : Array Value) (W : World), (callFunc k2 args).run Tryz.prog W = .ok (.enter k2 args) W)
    (hr : ∀ x y W, x < n → y < n → Below w.heap.size w W → Calls Tryz.prog k2 (#[.int .i64 (x : Int), .int .i64 (y : Int)] ++ c2) W fun e w' => e = .returned (.bool (r x y)) ∧ Below W.heap.size W w') :
    Calls Tryz.prog 31 #[.int .i64 (n : Int), .func (.func 32) #[strV n S0 R0] #[], .func (.func k2) #[] c2] w fun e w' => e = .returned (strV n (bitsOf (oneAt S0) n) (gridOf r n)) ∧ Below w.heap.size w w' := by
  have HS : Hid (∀ x W, x < n → Below w.heap.size w W → Calls Tryz.prog 32 #[strV n S0 R0, .int .i64 (x : Int)] W fun e w' => e = .returned (.bool (oneAt S0 x)) ∧ Below W.heap.size W w') := fun x W hx _ => inSet_b n S0 R0 x W (by omega) (by omega)
  have HR := Lib.hid hr; clear hr
  obtain ⟨s, hsd⟩ : ∃ s : Nat → Bool, oneAt S0 = s := ⟨_, rfl⟩
  rw [hsd] at HS ⊢
  clear hsd hS0
  unfold strV at HS ⊢
  go_enter Tryz.func31, Tryz.ntmps31
  go_wp2_with fail
  have hI0 : MkInv w ((w.alloc (.cells #[.int .i64 0, .string ByteArray.empty, .string ByteArray.empty] 24)).alloc (.cells #[.int .i64 n, .string ByteArray.empty, .string ByteArray.empty] 24)) n (bitsOf s 0) (bitsOf (fun k => r (k / n) (k % n)) (0 * n)) := by
    refine ⟨?_, ?_, ((Below.refl _ _).alloc (Nat.le_refl _) _).alloc (by simp) _⟩
    · exact (Below.heap_alloc _ _ _ (by simp)).trans (SBlk.new w 0 ByteArray.empty ByteArray.empty)
    · have h := SBlk.new (w.alloc (.cells #[.int .i64 0, .string ByteArray.empty, .string ByteArray.empty] 24)) n ByteArray.empty ByteArray.empty
      simpa [bitsOf_zero] using h
  have HI0 := Lib.hid hI0; clear hI0
  go_loopw [13, 8] (fun i _ wr => ∃ x : Nat, x ≤ n ∧ i = .int .i64 x ∧ Hid (MkInv w wr n (bitsOf s x) (bitsOf (fun k => r (k / n) (k % n)) (x * n)))) (fun i _ _ => n - (intOf i).toNat)
  case atStart => exact ⟨0, by omega, rfl, HI0.out⟩
  case round =>
    obtain ⟨x, hx, rfl, HI⟩ := hrel
    by_cases hlt : x < n
    · obtain ⟨c0, c1', c2', f0, f1, f2, hb⟩ := HI.out.out.cells
      have z0 : (bitsOf s x).size ≤ 8 := by rw [bitsOf_size]; omega
      have z1 : (bitS (s x)).size ≤ 1 := Nat.le_refl _
      go_upto_region 5 with fail
      go_cut [] (fun wx => MkInv w wx n (bitsOf s x ++ bitS (s x)) (bitsOf (fun k => r (k / n) (k % n)) (x * n)))
      case first =>
        go_region_with (first | (go_at_call 59; refine (bitOf_any _ _).mono ?_; rintro e w' ⟨rfl, rfl⟩) | ((with_reducible refine (HS.out x _ hlt ?_).mono ?_); (exact HI.out.old.drew); rintro e w1 ⟨rfl, hb1⟩; have HI1 := Lib.hid (HI.out.drew.below hb1); obtain ⟨i0, i1, i2, j0, j1, j2, hbb⟩ := HI1.out.out.cells; clear hb1))
        all_goals (go_wp2_with fail; go_meet; exact HI1.out.set1 _)
      case rest =>
        have HI := Lib.hid hcut; clear hcut
        rw [← bitsOf_succ] at HI
        go_wp2_with fail
        go_loopw [25, 9] (fun j _ wr => ∃ y : Nat, y ≤ n ∧ j = .int .i64 y ∧ Hid (MkInv w wr n (bitsOf s (x + 1)) (bitsOf (fun k => r (k / n) (k % n)) (x * n + y)))) (fun j _ _ => n - (intOf j).toNat)
        case atStart => exact ⟨0, by omega, rfl, HI.out⟩
        case round =>
          obtain ⟨y, hy, rfl, HJ⟩ := hrel
          by_cases hlt2 : y < n
          · obtain ⟨c0, c1', c2', f0, f1, f2, hb⟩ := HJ.out.out.cells
            have hxy : x * n + y ≤ 64 := by
              have h1 : x * n ≤ 7 * 8 := Nat.mul_le_mul (by omega) hn
              omega
            have z0 : (bitsOf (fun k => r (k / n) (k % n)) (x * n + y)).size ≤ 64 := by rw [bitsOf_size]; exact hxy
            have z1 : (bitS (r x y)).size ≤ 1 := Nat.le_refl _
            have HG : Hid (bitsOf (fun k => r (k / n) (k % n)) (x * n + (y + 1)) = bitsOf (fun k => r (k / n) (k % n)) (x * n + y) ++ bitS (r x y)) := by
              show bitsOf (fun k => r (k / n) (k % n)) (x * n + y + 1) = _
              rw [bitsOf_succ]
              exact congrArg (fun b => bitsOf (fun k => r (k / n) (k % n)) (x * n + y) ++ bitS b) (grid_at (r := r) (x := x) hlt2)
            clear hxy
            generalize bitsOf (fun k => r (k / n) (k % n)) (x * n + y) = G at *
            go_wp2_with fail
            go_region_with (first | (go_at_call 59; refine (bitOf_any _ _).mono ?_; rintro e w' ⟨rfl, rfl⟩) | ((with_reducible refine (HR.out x y _ hlt hlt2 ?_).mono ?_); (exact HJ.out.old.drew); rintro e w1 ⟨rfl, hb1⟩; have HI1 := Lib.hid (HJ.out.drew.below hb1); obtain ⟨i0, i1, i2, j0, j1, j2, hbb⟩ := HI1.out.out.cells; clear hb1))
            all_goals
              have HI2 := Lib.hid (HI1.out.set2 (G ++ bitS (r x y)))
              go_wp2_with fail
              go_roundw
              case rel =>
                refine ⟨y + 1, by omega, by go_num, ?_⟩
                rw [HG.out]
                exact HI2.out
              case measure => simp [intOf]; omega
          · have HI2 : Hid (MkInv w wr n (bitsOf s (x + 1)) (bitsOf (fun k => r (k / n) (k % n)) ((x + 1) * n))) := by
              have h := HJ.out
              rw [show x * n + y = (x + 1) * n by rw [Nat.add_mul, Nat.one_mul]; omega] at h
              exact h
            go_wp2_with fail
            go_roundw
            case rel => exact ⟨x + 1, by omega, by go_num, HI2.out⟩
            case measure => simp [intOf]; omega
    · obtain ⟨c0, c1', c2', f0, f1, f2, hb⟩ := HI.out.out.cells
      obtain ⟨d0, d1, d2, g0, g1, g2, hb'⟩ := HI.out.res.cells
      have hxn : x = n := by omega
      subst hxn
      go_wp2_with fail
      refine bodyPost_ret (v := strV x (bitsOf s x) (gridOf r x)) ?_ rfl ⟨rfl, ?_⟩
      · exact results_str rfl rfl HI.out.res.set3
      · exact ((HI.out.old.setCell (by simp) _).setCell (by simp) _).setCell (by simp) _
end Go.Proofs.YtihomcedaaiidaaGreatDoor

namespace Go.Proofs.YtihomcedaaiidaaGreatDoor
open Go.RowKit
set_option linter.unusedVariables false
set_option maxRecDepth 100000
def turnR (n : Nat) (R : ByteArray) : ByteArray := gridOf (fun x y => relAt n R y x) n
theorem turn1_any (n : Nat) (S R : ByteArray) (h8 : n ≤ 8) (hR : R.size = n * n) (b x y : Nat) (w : World) (hx : x < n) (hy : y < n) (hb : SBlk w b n S R) :
    Calls Tryz.prog 33 #[.int .i64 (x : Int), .int .i64 (y : Int), .pointer (some ⟨b, 0, none⟩)] w fun e w' => e = .returned (.bool (relAt n R y x)) ∧ Below w.heap.size w w' := by
  have HI := Lib.hid (fun w => inRel_b n S R y x w hy hx h8 hR)
  generalize relAt n R y x = r at *
  obtain ⟨s0, s1, s2, _, _, _, hl⟩ := hb.cells
  clear hR hb
  unfold strV at HI
  go_enter Tryz.func33, Tryz.ntmps33
  go_wp2_with fail
  refine (HI.out _).mono ?_; rintro e w2 ⟨rfl, hb2⟩
  have HB2 := Lib.hid hb2
  clear hb2
  go_wp2_with fail
  go_ret
  exact ⟨ret_bool (by simp), HB2.out⟩
set_option maxHeartbeats 1000000 in
theorem Turn_yes (n : Nat) (S R : ByteArray) (hv : validB n S R = true) (w : World) :
    Calls Tryz.prog 8 #[strV n S R] w fun en w' => en = .returned (.tuple #[strV n (bitsOf (oneAt S) n) (turnR n R), .bool true]) ∧ Below w.heap.size w w' := by
  obtain ⟨h1, h8, hS, hR, _, _⟩ := valid_is hv
  have HIS : Hid (∀ w, Calls Tryz.prog 30 #[strV n S R] w fun e w' => e = .returned (.bool true) ∧ Below w.heap.size w w') := fun w => by
    have := isStructure_any n S R w (by omega) (by rw [hR]; have := Nat.mul_le_mul h8 h8; omega)
    rw [hv] at this
    exact this
  have HB := Lib.hid (BoxR.first w n S R)
  have HM := Lib.hid (fun W3 k2 hk2 hr => makeStructure_set n h8 S R hS k2 #[.pointer (some ⟨w.heap.size, 0, none⟩)] (fun x y => relAt n R y x) W3 hk2 hr)
  have HRR := Lib.hid hR
  clear hv hS hR
  unfold boxS at HB
  obtain ⟨W, hW⟩ : ∃ W, (w.alloc (.cells #[.int .i64 (n : Int), .string S, .string R] 24)).alloc (.cells #[.int .i64 0, .string ⟨#[]⟩, .string ⟨#[]⟩] 24) = W := ⟨_, rfl⟩
  replace HB : Hid (BoxR w W n S R) := by rw [← hW]; exact HB.out
  have HW := Lib.hid hW
  clear hW
  unfold strV at HIS
  unfold strV
  go_enter Tryz.func8, Tryz.ntmps8
  go_upto_region 1 with fail
  rw [HW.out]
  obtain ⟨s0, s1, s2, _, _, _, hl⟩ := HB.out.a.cells
  go_wp2_with fail
  refine (HIS.out _).mono ?_; rintro _ w3 ⟨rfl, hb3⟩
  have HB3 := Lib.hid (HB.out.below hb3)
  clear hb3 s0 s1 s2 hl
  obtain ⟨s0, s1, s2, _, _, _, hl⟩ := HB3.out.a.cells
  go_wp2_with fail
  unfold strV at HM
  refine (HM.out w3 _ (fun _ _ => by kernel_rfl) (fun x y W' hx hy hb => turn1_any n S R h8 HRR.out w.heap.size x y W' hx hy (HB3.out.a.below hb HB3.out.a.cells.2.2.2.2.2.2))).mono ?_
  rintro e w7 ⟨rfl, hb7⟩
  have HB7 := Lib.hid (HB3.out.below hb7)
  clear hb7 s0 s1 s2 hl
  obtain ⟨d0, d1, d2, g0, g1, g2, hl⟩ := HB7.out.res.cells
  go_wp2_with fail
  refine bodyPost_ret (v := .tuple #[strV n (bitsOf (oneAt S) n) (turnR n R), .bool true]) ?_ rfl ⟨rfl, ?_⟩
  · exact results_str2 rfl rfl HB7.out.res.set3 rfl
  · exact HB7.out.fin _ _ _
end Go.Proofs.YtihomcedaaiidaaGreatDoor
