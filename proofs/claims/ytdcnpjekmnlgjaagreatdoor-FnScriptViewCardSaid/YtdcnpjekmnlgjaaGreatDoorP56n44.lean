/- The walk of the law, and what it leans on last. Conditions: those that each theorem states. -/
import Derived.Test.YtdcnpjekmnlgjaaGreatDoorP56n33
import Derived.Test.YtdcnpjekmnlgjaaGreatDoorP56n36
import Derived.Test.YtdcnpjekmnlgjaaGreatDoorP56n38
import Derived.Test.YtdcnpjekmnlgjaaGreatDoorP56n40
import Derived.Test.YtdcnpjekmnlgjaaGreatDoorP56n43
namespace Go.Proofs.YtdcnpjekmnlgjaaGreatDoor
open Go.RowKit
set_option linter.unusedVariables false
set_option maxRecDepth 100000
theorem nat_valid56 {n : Int} {S R : ByteArray} (h : validB n S R = true) : ∃ m : Nat, n = (m : Int) := by
  have h0 := h
  unfold validB inB at h0
  simp at h0
  exact Int.eq_ofNat_of_zero_le (by omega)
theorem rowLen56 {k : IntKind} {w : World} {a : Option Addr} {len cap : Nat} {zs : List Int} (h : IsRow k w a len cap zs) : len ≤ maxLen := by
  rcases h with ⟨_, h, _⟩ | ⟨_, _, h1, h2, _⟩
  · rw [h]; decide
  · omega
/-- Either nothing is defined, or all is. -/
theorem iv_case56 (f g : ByteArray) (hf : f.size ≤ 9223372036854775807) (hg : g.size ≤ 9223372036854775807) (n : Int) (S R : ByteArray) (hS : S.size ≤ 9223372036854775807) (hR : R.size ≤ 9223372036854775807) :
    ((∀ w, Calls Tryz.prog 5 #[strV n S R, .string f, .string g] w fun en w' => en = .returned (.tuple #[strV 0 ByteArray.empty ByteArray.empty, .bool false]) ∧ Below w.heap.size w w') ∧
     (∀ w, Calls Tryz.prog 6 #[strV n S R, .string f, .string g] w fun en w' => en = .returned (.tuple #[strV 0 ByteArray.empty ByteArray.empty, .bool false]) ∧ Below w.heap.size w w')) ∨
    ∃ (m : Nat) (φ ψ : Fm.T), n = (m : Int) ∧ validB m S R = true ∧ viewB f g = some (φ, ψ) := by
  cases hv : validB n S R
  · exact .inl ⟨fun w => implInterpret_no f g hf hg n S R hS hR hv w, fun w => specInterpret_no f g hf hg n S R hS hR (.inl hv) w⟩
  · obtain ⟨m, rfl⟩ := nat_valid56 hv
    cases hvw : viewB f g with
    | none => exact .inl ⟨fun w => by rw [← intRes_none (n := m) (S := S) (R := R) hvw]; exact implInterpret_yes f g hf hg m S R hv w, fun w => specInterpret_no f g hf hg m S R hS hR (.inr (view_no hvw)) w⟩
    | some p => exact .inr ⟨m, p.1, p.2, rfl, hv, by first | rfl | exact hvw⟩
/-- A short sentence. -/
def IsH (h : ByteArray) : Prop := h.size ≤ 10 ∧ ∃ χ, readB h = some χ ∧ Fm.free χ = 0
theorem isH0 : IsH ⟨#[83, 97, 83, 98, 38, 69, 97, 98, 80, 98]⟩ := ⟨by decide, .qu .some 0 (.qu .some 1 (.bin false (.rel true 0 1) (.set 1))), Fm.read_iff.2 ⟨rfl, by decide⟩, by decide⟩
theorem isH1 : IsH ⟨#[65, 97, 83, 98, 69, 97, 98]⟩ := ⟨by decide, .qu .all 0 (.qu .some 1 (.rel true 0 1)), Fm.read_iff.2 ⟨rfl, by decide⟩, by decide⟩
theorem isH2 : IsH ⟨#[83, 97, 65, 98, 124, 80, 98, 69, 97, 98]⟩ := ⟨by decide, .qu .some 0 (.qu .all 1 (.bin true (.set 1) (.rel true 0 1))), Fm.read_iff.2 ⟨rfl, by decide⟩, by decide⟩
theorem isH3 : IsH ⟨#[116]⟩ := ⟨by decide, .lit true, Fm.read_iff.2 ⟨rfl, by decide⟩, by decide⟩
def gsW56 (b : Bool) : ByteArray := truthB b ++ ⟨#[10]⟩
theorem gsWord56 (b : Bool) (w : World) : Calls Tryz.prog 11 #[.bool b] w fun e w' => e = .returned (.string (gsW56 b)) ∧ Below w.heap.size w w' := by
  cases b
  all_goals
    go_enter Tryz.func11, Tryz.ntmps11
    go_wp2_with fail
    go_ret
    exact ⟨rfl, Below.refl _ _⟩
theorem gsW56_size (b : Bool) : (gsW56 b).size ≤ 6 := by cases b <;> decide
theorem view_ok56 {m : Nat} {S R h f g k : ByteArray} {φ ψ χ : Fm.T} (hm : 1 ≤ m) (hv : validB m S R = true) (hu : validB m (ivS m S R φ) (ivR m S R ψ) = true) (hvw : viewB f g = some (φ, ψ)) (hr : readB h = some χ) (h0 : Fm.free χ = 0) (hk : PbOk h f g k)
    (int : ∀ w, Calls Tryz.prog 5 #[strV m S R, .string f, .string g] w fun en w' => en = .returned (.tuple #[strV m (ivS m S R φ) (ivR m S R ψ), .bool true]) ∧ Below w.heap.size w w')
    (pul : ∀ w, Calls Tryz.prog 7 #[.string h, .string f, .string g] w fun en w' => en = .returned (.tuple #[.string k, .bool true]) ∧ Below w.heap.size w w') :
    ∃ b1 b2 b3, VwOk m S R (ivS m S R φ) (ivR m S R ψ) h f g k b1 b2 b3 := by
  obtain ⟨r1, r2, o1, o2⟩ := pview_ok hvw
  obtain ⟨κ, kr, k0⟩ := pb_closed hk hr h0
  have ht := hk.true_ hvw m S R (fun _ => 0) (fun _ => hm)
  rw [holF_some kr, holF_some hr] at ht
  refine ⟨_, _, _, hv, hu, ⟨χ, hr, h0⟩, ⟨κ, kr, k0⟩, read_semi r1, read_semi r2, read_size r1, read_size r2, int, pul, hin_some hr h0 _, hin_some hr h0 _, ?_, hin_some kr k0 _⟩
  rw [hin_some kr k0, ht]
  rfl
set_option maxHeartbeats 4000000 in
theorem fnScriptView_walk (a0 : Option Addr) (len0 cap0 : Nat) (z0 : List Int) (a1 : Option Addr) (len1 cap1 : Nat) (z1 : List Int) (w : World) (w0 : IsRow .u8 w a0 len0 cap0 z0) (w1 : IsRow .u8 w a1 len1 cap1 z1) :
    Calls Tryz.prog 3 #[.slice a0 len0 cap0, .slice a1 len1 cap1] w fun e w' => e = .returned (.bool true) ∧ Below w.heap.size w w' := by
  have m0 := rowLen56 w0
  have m1 := rowLen56 w1
  unfold maxLen at m0 m1
  have W0 := Lib.hid w0; have W1 := Lib.hid w1; clear w0 w1
  by_cases l0 : (len0 : Int) ≤ 1048576
  · by_cases l1 : (len1 : Int) ≤ 1048576
    · go_enter Tryz.func3, Tryz.ntmps3
      go_wp2_with fail
      refine (DrawInterpret_any _ _ _ _ _ W0.out).mono ?_; rintro e w1 ⟨n, S, R, f, g, n0, n1, hS, hR, hf, hg, rfl, hb⟩
      have HB1 := Lib.hid hb; clear hb
      rcases iv_case56 f g (by omega) (by omega) n S R (by omega) (by omega) with ⟨hi, hs⟩ | ⟨m, φ, ψ, rfl, hv, hvw⟩
      · have HI := Lib.hid hi
        have HS := Lib.hid hs
        clear hi hs hS hR hf hg
        unfold strV at HI HS ⊢
        have hal : Below w1.heap.size w1 (w1.alloc (.cells #[.int .i64 n, .string S, .string R] 24)) := (Below.refl _ _).alloc (Nat.le_refl _) _
        have HB2 := Lib.hid (HB1.out.trans (hal.mono HB1.out.size))
        have HXa2 : Hid (SBlk (w1.alloc (.cells #[.int .i64 n, .string S, .string R] 24)) w1.heap.size n S R) := SBlk.new w1 n S R
        clear hal
        obtain ⟨ca0, ca1, ca2, fa0, fa1, fa2, ba⟩ := HXa2.out.cells
        go_wp2_with fail
        refine (HI.out _).mono ?_; rintro e w3 ⟨rfl, hb⟩
        have HB3 := Lib.hid (HB2.out.trans (hb.mono HB2.out.size))
        have HXa3 := Lib.hid (HXa2.out.below hb HXa2.out.cells.2.2.2.2.2.2)
        clear hb
        clear ca0 ca1 ca2 fa0 fa1 fa2 ba
        have hal : Below w3.heap.size w3 (w3.alloc (.cells #[.int .i64 0, .string ByteArray.empty, .string ByteArray.empty] 24)) := (Below.refl _ _).alloc (Nat.le_refl _) _
        have HB4 := Lib.hid (HB3.out.trans (hal.mono HB3.out.size))
        have HXa4 := Lib.hid (HXa3.out.below hal HXa3.out.cells.2.2.2.2.2.2)
        have HXb4 : Hid (SBlk (w3.alloc (.cells #[.int .i64 0, .string ByteArray.empty, .string ByteArray.empty] 24)) w3.heap.size 0 ByteArray.empty ByteArray.empty) := SBlk.new w3 0 ByteArray.empty ByteArray.empty
        clear hal
        obtain ⟨ca0, ca1, ca2, fa0, fa1, fa2, ba⟩ := HXa4.out.cells
        go_wp2_with fail
        refine (HS.out _).mono ?_; rintro e w5 ⟨rfl, hb⟩
        have HB5 := Lib.hid (HB4.out.trans (hb.mono HB4.out.size))
        have HXa5 := Lib.hid (HXa4.out.below hb HXa4.out.cells.2.2.2.2.2.2)
        have HXb5 := Lib.hid (HXb4.out.below hb HXb4.out.cells.2.2.2.2.2.2)
        clear hb
        clear ca0 ca1 ca2 fa0 fa1 fa2 ba
        have hal : Below w5.heap.size w5 (w5.alloc (.cells #[.int .i64 0, .string ByteArray.empty, .string ByteArray.empty] 24)) := (Below.refl _ _).alloc (Nat.le_refl _) _
        have HB6 := Lib.hid (HB5.out.trans (hal.mono HB5.out.size))
        have HXa6 := Lib.hid (HXa5.out.below hal HXa5.out.cells.2.2.2.2.2.2)
        have HXb6 := Lib.hid (HXb5.out.below hal HXb5.out.cells.2.2.2.2.2.2)
        have HXc6 : Hid (SBlk (w5.alloc (.cells #[.int .i64 0, .string ByteArray.empty, .string ByteArray.empty] 24)) w5.heap.size 0 ByteArray.empty ByteArray.empty) := SBlk.new w5 0 ByteArray.empty ByteArray.empty
        clear hal
        obtain ⟨cb0, cb1, cb2, fb0, fb1, fb2, bb⟩ := HXb6.out.cells
        obtain ⟨cc0, cc1, cc2, fc0, fc1, fc2, bc⟩ := HXc6.out.cells
        go_wp2_with fail
        go_ret
        exact ⟨ret_bool (by simp), HB6.out⟩
      · obtain ⟨r1, r2, o1, o2⟩ := pview_ok hvw
        obtain ⟨h1, h8, hSm, hRm, _, _⟩ := valid_is hv
        have HI := Lib.hid (fun w => implInterpret_yes f g (by omega) (by omega) m S R hv w)
        rw [ivRes_some hvw] at HI
        have HS : Hid (∀ w, Calls Tryz.prog 6 #[strV m S R, .string f, .string g] w fun en w' => en = .returned (.tuple #[strV m (ivS m S R φ) (ivR m S R ψ), .bool true]) ∧ Below w.heap.size w w') := fun w => specInterpret_yes f g m S R hv φ ψ r1 r2 o1 o2 w
        have hv2 : validB m (ivS m S R φ) (ivR m S R ψ) = true := valid_bits h1 h8 _ _
        have HVK := Lib.hid (fun h χ k hr h0 hk pul => view_ok56 (h := h) (χ := χ) (k := k) h1 hv hv2 hvw hr h0 hk HI.out pul)
        have HPB := Lib.hid (fun h (hh : h.size ≤ 10) w => implPullBack_any h f g (by omega) (by omega) (by omega) w)
        have hfz := read_size r1
        have hgz := read_size r2
        have hfn := read_no r1
        have hgn := read_no r2
        have HNO := Lib.hid (And.intro hfn hgn)
        have HVV := Lib.hid (And.intro hv hv2)
        generalize ivS m S R φ = TS at *
        generalize ivR m S R ψ = TR at *
        clear hvw r1 r2 o1 o2 hv hv2 hSm hRm n0 n1 hS hR hf hg hfn hgn
        unfold strV at HI HS ⊢
        have hal : Below w1.heap.size w1 (w1.alloc (.cells #[.int .i64 (m : Int), .string S, .string R] 24)) := (Below.refl _ _).alloc (Nat.le_refl _) _
        have HB2 := Lib.hid (HB1.out.trans (hal.mono HB1.out.size))
        have HXa2 : Hid (SBlk (w1.alloc (.cells #[.int .i64 (m : Int), .string S, .string R] 24)) w1.heap.size (m : Int) S R) := SBlk.new w1 (m : Int) S R
        clear hal
        obtain ⟨ca0, ca1, ca2, fa0, fa1, fa2, ba⟩ := HXa2.out.cells
        go_wp2_with fail
        refine (HI.out _).mono ?_; rintro e w3 ⟨rfl, hb⟩
        have HB3 := Lib.hid (HB2.out.trans (hb.mono HB2.out.size))
        have HXa3 := Lib.hid (HXa2.out.below hb HXa2.out.cells.2.2.2.2.2.2)
        clear hb
        clear ca0 ca1 ca2 fa0 fa1 fa2 ba
        have hal : Below w3.heap.size w3 (w3.alloc (.cells #[.int .i64 (m : Int), .string TS, .string TR] 24)) := (Below.refl _ _).alloc (Nat.le_refl _) _
        have HB4 := Lib.hid (HB3.out.trans (hal.mono HB3.out.size))
        have HXa4 := Lib.hid (HXa3.out.below hal HXa3.out.cells.2.2.2.2.2.2)
        have HXb4 : Hid (SBlk (w3.alloc (.cells #[.int .i64 (m : Int), .string TS, .string TR] 24)) w3.heap.size (m : Int) TS TR) := SBlk.new w3 (m : Int) TS TR
        clear hal
        obtain ⟨ca0, ca1, ca2, fa0, fa1, fa2, ba⟩ := HXa4.out.cells
        go_wp2_with fail
        refine (HS.out _).mono ?_; rintro e w5 ⟨rfl, hb⟩
        have HB5 := Lib.hid (HB4.out.trans (hb.mono HB4.out.size))
        have HXa5 := Lib.hid (HXa4.out.below hb HXa4.out.cells.2.2.2.2.2.2)
        have HXb5 := Lib.hid (HXb4.out.below hb HXb4.out.cells.2.2.2.2.2.2)
        clear hb
        clear ca0 ca1 ca2 fa0 fa1 fa2 ba
        have hal : Below w5.heap.size w5 (w5.alloc (.cells #[.int .i64 (m : Int), .string TS, .string TR] 24)) := (Below.refl _ _).alloc (Nat.le_refl _) _
        have HB6 := Lib.hid (HB5.out.trans (hal.mono HB5.out.size))
        have HXa6 := Lib.hid (HXa5.out.below hal HXa5.out.cells.2.2.2.2.2.2)
        have HXb6 := Lib.hid (HXb5.out.below hal HXb5.out.cells.2.2.2.2.2.2)
        have HXc6 : Hid (SBlk (w5.alloc (.cells #[.int .i64 (m : Int), .string TS, .string TR] 24)) w5.heap.size (m : Int) TS TR) := SBlk.new w5 (m : Int) TS TR
        clear hal
        obtain ⟨ca0, ca1, ca2, fa0, fa1, fa2, ba⟩ := HXa6.out.cells
        obtain ⟨cb0, cb1, cb2, fb0, fb1, fb2, bb⟩ := HXb6.out.cells
        obtain ⟨cc0, cc1, cc2, fc0, fc1, fc2, bc⟩ := HXc6.out.cells
        by_cases hm4 : (m : Int) ≤ 4
        · have hm4B : decide ((4 : Int) < (m : Int)) = false := decide_eq_false (by omega)
          have hm4N : ¬ (4 : Int) < (m : Int) := by omega
          have HKW : Hid (SBlk (w5.alloc (.cells #[.int .i64 (m : Int), .string TS, .string TR] 24)) w1.heap.size (m : Int) S R ∧ SBlk (w5.alloc (.cells #[.int .i64 (m : Int), .string TS, .string TR] 24)) w3.heap.size (m : Int) TS TR ∧ Below w.heap.size w (w5.alloc (.cells #[.int .i64 (m : Int), .string TS, .string TR] 24))) := ⟨HXa6.out, HXb6.out, HB6.out⟩
          go_upto_region 8 with fail
          clear ca0 ca1 ca2 fa0 fa1 fa2 ba cb0 cb1 cb2 fb0 fb1 fb2 bb cc0 cc1 cc2 fc0 fc1 fc2 bc
          obtain ⟨w6, hw6⟩ : ∃ x, (w5.alloc (.cells #[.int .i64 (m : Int), .string TS, .string TR] 24)) = x := ⟨_, rfl⟩
          rw [hw6] at HKW ⊢
          clear hw6
          have hb6 : ∀ o, Hid (SBlk (w6.alloc o) w1.heap.size (m : Int) S R ∧ SBlk (w6.alloc o) w3.heap.size (m : Int) TS TR ∧ Below w.heap.size w (w6.alloc o)) := fun o => by
            have hb : Below w6.heap.size w6 (w6.alloc o) := (Below.refl _ _).alloc (Nat.le_refl _) _
            exact ⟨HKW.out.1.below hb HKW.out.1.cells.2.2.2.2.2.2, HKW.out.2.1.below hb HKW.out.2.1.cells.2.2.2.2.2.2, HKW.out.2.2.trans (hb.mono HKW.out.2.2.size)⟩
          have HB6 := Lib.hid hb6
          clear hb6
          go_cut [12] (fun x wx => ∃ h : ByteArray, x = .string h ∧ Hid (IsH h ∧ SBlk wx w1.heap.size (m : Int) S R ∧ SBlk wx w3.heap.size (m : Int) TS TR ∧ Below w.heap.size w wx))
          case first =>
            have h4 : (4 : Int) ≠ 0 := by decide
            rcases (show len1 % 4 = 0 ∨ len1 % 4 = 1 ∨ len1 % 4 = 2 ∨ len1 % 4 = 3 by omega) with hr | hr | hr | hr
            · have hrI : (len1 : Int) % 4 = 0 := by omega
              have hrT : (len1 : Int).tmod 4 = 0 := by rw [Int.tmod_eq_emod_of_nonneg (by omega)]; exact hrI
              clear hr
              go_wp2_with fail
              go_meet
              exact ⟨_, rfl, isH0, HB6.out _⟩
            · have hrI : (len1 : Int) % 4 = 1 := by omega
              have hrT : (len1 : Int).tmod 4 = 1 := by rw [Int.tmod_eq_emod_of_nonneg (by omega)]; exact hrI
              clear hr
              go_wp2_with fail
              go_meet
              exact ⟨_, rfl, isH1, HB6.out _⟩
            · have hrI : (len1 : Int) % 4 = 2 := by omega
              have hrT : (len1 : Int).tmod 4 = 2 := by rw [Int.tmod_eq_emod_of_nonneg (by omega)]; exact hrI
              clear hr
              go_wp2_with fail
              go_meet
              exact ⟨_, rfl, isH2, HB6.out _⟩
            · have hrI : (len1 : Int) % 4 = 3 := by omega
              have hrT : (len1 : Int).tmod 4 = 3 := by rw [Int.tmod_eq_emod_of_nonneg (by omega)]; exact hrI
              clear hr
              go_wp2_with fail
              go_meet
              exact ⟨_, rfl, isH3, HB6.out _⟩
          case rest =>
            obtain ⟨h, rfl, HH⟩ := hcut
            obtain ⟨⟨hz, χ, hr, h0⟩, HKX⟩ := HH.out
            have HKW := Lib.hid HKX
            clear HH HKX HB6
            have HPH := Lib.hid (HPB.out h hz)
            rcases pb_is h f g with hn | ⟨k, hk⟩
            · rw [hn] at HPH
              clear hn hr h0
              go_wp2_with fail
              refine (HPH.out _).mono ?_; rintro e w7 ⟨rfl, hb⟩
              have HB7 := Lib.hid (HKW.out.2.2.trans (hb.mono HKW.out.2.2.size)); clear hb
              go_wp2_with fail
              go_ret
              exact ⟨rfl, HB7.out⟩
            · rw [hk.turn] at HPH
              have hkz := hk.size
              obtain ⟨b1, b2, b3, hvk⟩ := HVK.out h χ k hr h0 hk HPH.out
              have HRK := Lib.hid (fun w => RankOf_any k w (by omega))
              generalize rankV k = rk at *
              have HH1 := Lib.hid (fun w => implHoldsIn_any h (by omega) m TS TR hvk.u w)
              rw [hvk.t1] at HH1
              have HH2 := Lib.hid (fun w => implHoldsIn_any h (by omega) m S R hvk.v w)
              rw [hvk.t2] at HH2
              have HH3 := Lib.hid (fun w => implHoldsIn_any k (by omega) m TS TR hvk.u w)
              rw [hvk.t4] at HH3
              have HFA := Lib.hid (fun w => FormatStructure_any m S R hvk.v w)
              have HFB := Lib.hid (fun w => FormatStructure_any m TS TR hvk.u w)
              have hFz := fmt_size hvk.v
              have hGz := fmt_size hvk.u
              have HSn := Lib.hid (fmt_no hvk.v)
              have hhn := Lib.hid (read_no hr)
              have hlines : (linesB (viewLines (fmtS S R) h f g)).size ≤ 20000 := by
                rw [linesB_size]
                simp only [viewLines, List.map_cons, List.map_nil, List.sum_cons, List.sum_nil, ByteArray.size_append]
                show 5 + (fmtS S R).size + 1 + (6 + (fmtS S R).size + 1 + (8 + h.size + 1 + (5 + f.size + 1 + g.size + 1 + (5 + 1 + (5 + f.size + 1 + g.size + 1 + (8 + 1 + (5 + 1 + 0))))))) ≤ 20000
                omega
              have z1 := truthB_size b1
              have z2 := truthB_size b2
              have z3 := truthB_size b3
              have houts : ∀ j, (outT ((viewAns (fmtS S R) (fmtS TS TR) (truthB b1) (truthB b2) (truthB b3) k).take j)).size ≤ 40000 := fun j => by
                refine Nat.le_trans (outT_take _ j) ?_
                rw [outT_size]
                simp only [viewAns, List.map_cons, List.map_nil, List.sum_cons, List.sum_nil, ByteArray.size_append]
                show 2 + 1 + (2 + 1 + (2 + 1 + ((fmtS TS TR).size + 1 + ((truthB b1).size + 1 + (truthB b2).size + 1 + (k.size + 1 + ((fmtS S R).size + 1 + ((truthB b1).size + 1 + (truthB b3).size + 1 + 0))))))) ≤ 40000
                omega
              have HRS := Lib.hid (fun w => RunScript_lines (viewLines (fmtS S R) h f g) (viewAns (fmtS S R) (fmtS TS TR) (truthB b1) (truthB b2) (truthB b3) k) (viewLines_no _ _ _ _ HSn.out hhn.out HNO.out.1 HNO.out.2) (viewLines_ne _ _ _ _) (by show 8 ≤ 99; omega) hlines houts w (view_steps w m S R TS TR h f g k b1 b2 b3 hvk))
              rw [← viewScript] at HRS
              have HG1 := Lib.hid (fun w => gsWord56 b1 w)
              have HG2 := Lib.hid (fun w => gsWord56 b2 w)
              have HG3 := Lib.hid (fun w => gsWord56 b3 w)
              have g2 := gsW56_size b2
              have g3 := gsW56_size b3
              clear hlines houts HSn hhn hvk hk hr h0 HVK HPB HNO z1 z2 z3
              unfold strV at HH1 HH2 HH3 HFA HFB
              generalize fmtS S R = F at *
              generalize fmtS TS TR = F2 at *
              by_cases h6 : rk ≤ 6
              · have h6N : ¬ (6 : Int) < rk := by omega
                go_wp2_with fail
                refine (HPH.out _).mono ?_; rintro e w7 ⟨rfl, hb⟩
                have HK7 : Hid (SBlk w7 w1.heap.size (m : Int) S R ∧ SBlk w7 w3.heap.size (m : Int) TS TR ∧ Below w.heap.size w w7) := ⟨HKW.out.1.below hb HKW.out.1.cells.2.2.2.2.2.2, HKW.out.2.1.below hb HKW.out.2.1.cells.2.2.2.2.2.2, HKW.out.2.2.trans (hb.mono HKW.out.2.2.size)⟩; clear hb HKW
                go_wp2_with fail
                refine (HRK.out _).mono ?_; rintro e w8 ⟨rfl, hb⟩
                have HK8 : Hid (SBlk w8 w1.heap.size (m : Int) S R ∧ SBlk w8 w3.heap.size (m : Int) TS TR ∧ Below w.heap.size w w8) := ⟨HK7.out.1.below hb HK7.out.1.cells.2.2.2.2.2.2, HK7.out.2.1.below hb HK7.out.2.1.cells.2.2.2.2.2.2, HK7.out.2.2.trans (hb.mono HK7.out.2.2.size)⟩; clear hb HK7
                obtain ⟨ca0, ca1, ca2, _, _, _, ba⟩ := HK8.out.1.cells
                obtain ⟨cb0, cb1, cb2, _, _, _, bb⟩ := HK8.out.2.1.cells
                go_wp2_with fail
                refine (HH1.out _).mono ?_; rintro e w9 ⟨rfl, hb⟩
                have HK9 : Hid (SBlk w9 w1.heap.size (m : Int) S R ∧ SBlk w9 w3.heap.size (m : Int) TS TR ∧ Below w.heap.size w w9) := ⟨HK8.out.1.below hb HK8.out.1.cells.2.2.2.2.2.2, HK8.out.2.1.below hb HK8.out.2.1.cells.2.2.2.2.2.2, HK8.out.2.2.trans (hb.mono HK8.out.2.2.size)⟩; clear hb HK8 ca0 ca1 ca2 ba cb0 cb1 cb2 bb
                obtain ⟨ca0, ca1, ca2, _, _, _, ba⟩ := HK9.out.1.cells
                go_wp2_with fail
                refine (HFA.out _).mono ?_; rintro e w10 ⟨rfl, hb⟩
                have HK10 : Hid (SBlk w10 w1.heap.size (m : Int) S R ∧ SBlk w10 w3.heap.size (m : Int) TS TR ∧ Below w.heap.size w w10) := ⟨HK9.out.1.below hb HK9.out.1.cells.2.2.2.2.2.2, HK9.out.2.1.below hb HK9.out.2.1.cells.2.2.2.2.2.2, HK9.out.2.2.trans (hb.mono HK9.out.2.2.size)⟩; clear hb HK9 ca0 ca1 ca2 ba
                obtain ⟨ca0, ca1, ca2, _, _, _, ba⟩ := HK10.out.1.cells

                have ht1 : ((⟨#[108, 101, 102, 116, 32]⟩ : ByteArray) ++ F : ByteArray).size ≤ 20000 := by
                  simp only [ByteArray.size_append]
                  show 5 + F.size ≤ 20000
                  omega
                have ht2 : ((⟨#[108, 101, 102, 116, 32]⟩ : ByteArray) ++ F ++ ⟨#[10, 114, 105, 103, 104, 116, 32]⟩ : ByteArray).size ≤ 20000 := by
                  simp only [ByteArray.size_append]
                  show 5 + F.size + 7 ≤ 20000
                  omega
                have ht3 : ((⟨#[108, 101, 102, 116, 32]⟩ : ByteArray) ++ F ++ ⟨#[10, 114, 105, 103, 104, 116, 32]⟩ ++ F : ByteArray).size ≤ 20000 := by
                  simp only [ByteArray.size_append]
                  show 5 + F.size + 7 + F.size ≤ 20000
                  omega
                have ht4 : ((⟨#[108, 101, 102, 116, 32]⟩ : ByteArray) ++ F ++ ⟨#[10, 114, 105, 103, 104, 116, 32]⟩ ++ F ++ ⟨#[10, 102, 111, 114, 109, 117, 108, 97, 32]⟩ : ByteArray).size ≤ 20000 := by
                  simp only [ByteArray.size_append]
                  show 5 + F.size + 7 + F.size + 9 ≤ 20000
                  omega
                have ht5 : ((⟨#[108, 101, 102, 116, 32]⟩ : ByteArray) ++ F ++ ⟨#[10, 114, 105, 103, 104, 116, 32]⟩ ++ F ++ ⟨#[10, 102, 111, 114, 109, 117, 108, 97, 32]⟩ ++ h : ByteArray).size ≤ 20000 := by
                  simp only [ByteArray.size_append]
                  show 5 + F.size + 7 + F.size + 9 + h.size ≤ 20000
                  omega
                have ht6 : ((⟨#[108, 101, 102, 116, 32]⟩ : ByteArray) ++ F ++ ⟨#[10, 114, 105, 103, 104, 116, 32]⟩ ++ F ++ ⟨#[10, 102, 111, 114, 109, 117, 108, 97, 32]⟩ ++ h ++ ⟨#[10, 118, 105, 101, 119, 32]⟩ : ByteArray).size ≤ 20000 := by
                  simp only [ByteArray.size_append]
                  show 5 + F.size + 7 + F.size + 9 + h.size + 6 ≤ 20000
                  omega
                have ht7 : ((⟨#[108, 101, 102, 116, 32]⟩ : ByteArray) ++ F ++ ⟨#[10, 114, 105, 103, 104, 116, 32]⟩ ++ F ++ ⟨#[10, 102, 111, 114, 109, 117, 108, 97, 32]⟩ ++ h ++ ⟨#[10, 118, 105, 101, 119, 32]⟩ ++ f : ByteArray).size ≤ 20000 := by
                  simp only [ByteArray.size_append]
                  show 5 + F.size + 7 + F.size + 9 + h.size + 6 + f.size ≤ 20000
                  omega
                have ht8 : ((⟨#[108, 101, 102, 116, 32]⟩ : ByteArray) ++ F ++ ⟨#[10, 114, 105, 103, 104, 116, 32]⟩ ++ F ++ ⟨#[10, 102, 111, 114, 109, 117, 108, 97, 32]⟩ ++ h ++ ⟨#[10, 118, 105, 101, 119, 32]⟩ ++ f ++ ⟨#[59]⟩ : ByteArray).size ≤ 20000 := by
                  simp only [ByteArray.size_append]
                  show 5 + F.size + 7 + F.size + 9 + h.size + 6 + f.size + 1 ≤ 20000
                  omega
                have ht9 : ((⟨#[108, 101, 102, 116, 32]⟩ : ByteArray) ++ F ++ ⟨#[10, 114, 105, 103, 104, 116, 32]⟩ ++ F ++ ⟨#[10, 102, 111, 114, 109, 117, 108, 97, 32]⟩ ++ h ++ ⟨#[10, 118, 105, 101, 119, 32]⟩ ++ f ++ ⟨#[59]⟩ ++ g : ByteArray).size ≤ 20000 := by
                  simp only [ByteArray.size_append]
                  show 5 + F.size + 7 + F.size + 9 + h.size + 6 + f.size + 1 + g.size ≤ 20000
                  omega
                have ht10 : ((⟨#[108, 101, 102, 116, 32]⟩ : ByteArray) ++ F ++ ⟨#[10, 114, 105, 103, 104, 116, 32]⟩ ++ F ++ ⟨#[10, 102, 111, 114, 109, 117, 108, 97, 32]⟩ ++ h ++ ⟨#[10, 118, 105, 101, 119, 32]⟩ ++ f ++ ⟨#[59]⟩ ++ g ++ ⟨#[10, 104, 111, 108, 100, 115, 10, 112, 117, 108, 108, 32]⟩ : ByteArray).size ≤ 20000 := by
                  simp only [ByteArray.size_append]
                  show 5 + F.size + 7 + F.size + 9 + h.size + 6 + f.size + 1 + g.size + 12 ≤ 20000
                  omega
                have ht11 : ((⟨#[108, 101, 102, 116, 32]⟩ : ByteArray) ++ F ++ ⟨#[10, 114, 105, 103, 104, 116, 32]⟩ ++ F ++ ⟨#[10, 102, 111, 114, 109, 117, 108, 97, 32]⟩ ++ h ++ ⟨#[10, 118, 105, 101, 119, 32]⟩ ++ f ++ ⟨#[59]⟩ ++ g ++ ⟨#[10, 104, 111, 108, 100, 115, 10, 112, 117, 108, 108, 32]⟩ ++ f : ByteArray).size ≤ 20000 := by
                  simp only [ByteArray.size_append]
                  show 5 + F.size + 7 + F.size + 9 + h.size + 6 + f.size + 1 + g.size + 12 + f.size ≤ 20000
                  omega
                have ht12 : ((⟨#[108, 101, 102, 116, 32]⟩ : ByteArray) ++ F ++ ⟨#[10, 114, 105, 103, 104, 116, 32]⟩ ++ F ++ ⟨#[10, 102, 111, 114, 109, 117, 108, 97, 32]⟩ ++ h ++ ⟨#[10, 118, 105, 101, 119, 32]⟩ ++ f ++ ⟨#[59]⟩ ++ g ++ ⟨#[10, 104, 111, 108, 100, 115, 10, 112, 117, 108, 108, 32]⟩ ++ f ++ ⟨#[59]⟩ : ByteArray).size ≤ 20000 := by
                  simp only [ByteArray.size_append]
                  show 5 + F.size + 7 + F.size + 9 + h.size + 6 + f.size + 1 + g.size + 12 + f.size + 1 ≤ 20000
                  omega
                have ht13 : ((⟨#[108, 101, 102, 116, 32]⟩ : ByteArray) ++ F ++ ⟨#[10, 114, 105, 103, 104, 116, 32]⟩ ++ F ++ ⟨#[10, 102, 111, 114, 109, 117, 108, 97, 32]⟩ ++ h ++ ⟨#[10, 118, 105, 101, 119, 32]⟩ ++ f ++ ⟨#[59]⟩ ++ g ++ ⟨#[10, 104, 111, 108, 100, 115, 10, 112, 117, 108, 108, 32]⟩ ++ f ++ ⟨#[59]⟩ ++ g : ByteArray).size ≤ 20000 := by
                  simp only [ByteArray.size_append]
                  show 5 + F.size + 7 + F.size + 9 + h.size + 6 + f.size + 1 + g.size + 12 + f.size + 1 + g.size ≤ 20000
                  omega
                have ht14 : ((⟨#[108, 101, 102, 116, 32]⟩ : ByteArray) ++ F ++ ⟨#[10, 114, 105, 103, 104, 116, 32]⟩ ++ F ++ ⟨#[10, 102, 111, 114, 109, 117, 108, 97, 32]⟩ ++ h ++ ⟨#[10, 118, 105, 101, 119, 32]⟩ ++ f ++ ⟨#[59]⟩ ++ g ++ ⟨#[10, 104, 111, 108, 100, 115, 10, 112, 117, 108, 108, 32]⟩ ++ f ++ ⟨#[59]⟩ ++ g ++ ⟨#[10, 101, 120, 99, 104, 97, 110, 103, 101, 10, 104, 111, 108, 100, 115, 10]⟩ : ByteArray).size ≤ 20000 := by
                  simp only [ByteArray.size_append]
                  show 5 + F.size + 7 + F.size + 9 + h.size + 6 + f.size + 1 + g.size + 12 + f.size + 1 + g.size + 16 ≤ 20000
                  omega
                go_wp2_with fail
                refine (HH2.out _).mono ?_; rintro e w11 ⟨rfl, hb⟩
                have HK11 : Hid (SBlk w11 w1.heap.size (m : Int) S R ∧ SBlk w11 w3.heap.size (m : Int) TS TR ∧ Below w.heap.size w w11) := ⟨HK10.out.1.below hb HK10.out.1.cells.2.2.2.2.2.2, HK10.out.2.1.below hb HK10.out.2.1.cells.2.2.2.2.2.2, HK10.out.2.2.trans (hb.mono HK10.out.2.2.size)⟩; clear hb HK10 ca0 ca1 ca2 ba
                obtain ⟨cb0, cb1, cb2, _, _, _, bb⟩ := HK11.out.2.1.cells
                go_wp2_with fail
                refine (HH3.out _).mono ?_; rintro e w12 ⟨rfl, hb⟩
                have HK12 : Hid (SBlk w12 w1.heap.size (m : Int) S R ∧ SBlk w12 w3.heap.size (m : Int) TS TR ∧ Below w.heap.size w w12) := ⟨HK11.out.1.below hb HK11.out.1.cells.2.2.2.2.2.2, HK11.out.2.1.below hb HK11.out.2.1.cells.2.2.2.2.2.2, HK11.out.2.2.trans (hb.mono HK11.out.2.2.size)⟩; clear hb HK11 cb0 cb1 cb2 bb
                clear ht1 ht2 ht3 ht4 ht5 ht6 ht7 ht8 ht9 ht10 ht11 ht12 ht13 ht14
                go_upto_region 17 with fail
                cases b1
                · have hsl : ∀ wx, (Instr.slice 9 (.string ⟨#[102, 97, 108, 115, 101, 10]⟩) none (some (.int .i64 5)) none).run Tryz.prog wx = .ok (.string ⟨#[102, 97, 108, 115, 101]⟩) wx := fun wx => by kernel_rfl
                  have HGL : Hid (∀ w, Calls Tryz.prog 11 #[.bool false] w fun e w' => e = .returned (.string ⟨#[102, 97, 108, 115, 101, 10]⟩) ∧ Below w.heap.size w w') := HG1.out
                  obtain ⟨G2, hG2⟩ : ∃ G, gsW56 b2 = G := ⟨_, rfl⟩
                  obtain ⟨G3, hG3⟩ : ∃ G, gsW56 b3 = G := ⟨_, rfl⟩
                  rw [hG2] at HG2 g2
                  rw [hG3] at HG3 g3
                  have HRS2 : Hid (∀ w, Calls Tryz.prog 12 #[.string ((⟨#[108, 101, 102, 116, 32]⟩ : ByteArray) ++ F ++ ⟨#[10, 114, 105, 103, 104, 116, 32]⟩ ++ F ++ ⟨#[10, 102, 111, 114, 109, 117, 108, 97, 32]⟩ ++ h ++ ⟨#[10, 118, 105, 101, 119, 32]⟩ ++ f ++ ⟨#[59]⟩ ++ g ++ ⟨#[10, 104, 111, 108, 100, 115, 10, 112, 117, 108, 108, 32]⟩ ++ f ++ ⟨#[59]⟩ ++ g ++ ⟨#[10, 101, 120, 99, 104, 97, 110, 103, 101, 10, 104, 111, 108, 100, 115, 10]⟩)] w fun e w' => e = .returned (.string ((⟨#[111, 107, 10, 111, 107, 10, 111, 107, 10]⟩ : ByteArray) ++ F2 ++ ⟨#[10]⟩ ++ ⟨#[102, 97, 108, 115, 101]⟩ ++ ⟨#[32]⟩ ++ G2 ++ k ++ ⟨#[10]⟩ ++ F ++ ⟨#[10]⟩ ++ ⟨#[102, 97, 108, 115, 101]⟩ ++ ⟨#[32]⟩ ++ G3)) ∧ Below w.heap.size w w') := fun w => by
                    have h := HRS.out w
                    rw [← viewOut] at h
                    rw [← hG2, ← hG3]
                    exact h
                  clear HRS HG1
                  have hz1 : ((⟨#[111, 107, 10, 111, 107, 10, 111, 107, 10]⟩ : ByteArray) ++ F2 : ByteArray).size ≤ 10000 := by
                    simp only [ByteArray.size_append]
                    show 9 + F2.size ≤ 10000
                    omega
                  have hz2 : ((⟨#[111, 107, 10, 111, 107, 10, 111, 107, 10]⟩ : ByteArray) ++ F2 ++ ⟨#[10]⟩ : ByteArray).size ≤ 10000 := by
                    simp only [ByteArray.size_append]
                    show 9 + F2.size + 1 ≤ 10000
                    omega
                  have hz3 : ((⟨#[111, 107, 10, 111, 107, 10, 111, 107, 10]⟩ : ByteArray) ++ F2 ++ ⟨#[10]⟩ ++ ⟨#[102, 97, 108, 115, 101]⟩ : ByteArray).size ≤ 10000 := by
                    simp only [ByteArray.size_append]
                    show 9 + F2.size + 1 + 5 ≤ 10000
                    omega
                  have hz4 : ((⟨#[111, 107, 10, 111, 107, 10, 111, 107, 10]⟩ : ByteArray) ++ F2 ++ ⟨#[10]⟩ ++ ⟨#[102, 97, 108, 115, 101]⟩ ++ ⟨#[32]⟩ : ByteArray).size ≤ 10000 := by
                    simp only [ByteArray.size_append]
                    show 9 + F2.size + 1 + 5 + 1 ≤ 10000
                    omega
                  have hz5 : ((⟨#[111, 107, 10, 111, 107, 10, 111, 107, 10]⟩ : ByteArray) ++ F2 ++ ⟨#[10]⟩ ++ ⟨#[102, 97, 108, 115, 101]⟩ ++ ⟨#[32]⟩ ++ G2 : ByteArray).size ≤ 10000 := by
                    simp only [ByteArray.size_append]
                    show 9 + F2.size + 1 + 5 + 1 + G2.size ≤ 10000
                    omega
                  have hz6 : ((⟨#[111, 107, 10, 111, 107, 10, 111, 107, 10]⟩ : ByteArray) ++ F2 ++ ⟨#[10]⟩ ++ ⟨#[102, 97, 108, 115, 101]⟩ ++ ⟨#[32]⟩ ++ G2 ++ k : ByteArray).size ≤ 10000 := by
                    simp only [ByteArray.size_append]
                    show 9 + F2.size + 1 + 5 + 1 + G2.size + k.size ≤ 10000
                    omega
                  have hz7 : ((⟨#[111, 107, 10, 111, 107, 10, 111, 107, 10]⟩ : ByteArray) ++ F2 ++ ⟨#[10]⟩ ++ ⟨#[102, 97, 108, 115, 101]⟩ ++ ⟨#[32]⟩ ++ G2 ++ k ++ ⟨#[10]⟩ : ByteArray).size ≤ 10000 := by
                    simp only [ByteArray.size_append]
                    show 9 + F2.size + 1 + 5 + 1 + G2.size + k.size + 1 ≤ 10000
                    omega
                  have hz8 : ((⟨#[111, 107, 10, 111, 107, 10, 111, 107, 10]⟩ : ByteArray) ++ F2 ++ ⟨#[10]⟩ ++ ⟨#[102, 97, 108, 115, 101]⟩ ++ ⟨#[32]⟩ ++ G2 ++ k ++ ⟨#[10]⟩ ++ F : ByteArray).size ≤ 10000 := by
                    simp only [ByteArray.size_append]
                    show 9 + F2.size + 1 + 5 + 1 + G2.size + k.size + 1 + F.size ≤ 10000
                    omega
                  have hz9 : ((⟨#[111, 107, 10, 111, 107, 10, 111, 107, 10]⟩ : ByteArray) ++ F2 ++ ⟨#[10]⟩ ++ ⟨#[102, 97, 108, 115, 101]⟩ ++ ⟨#[32]⟩ ++ G2 ++ k ++ ⟨#[10]⟩ ++ F ++ ⟨#[10]⟩ : ByteArray).size ≤ 10000 := by
                    simp only [ByteArray.size_append]
                    show 9 + F2.size + 1 + 5 + 1 + G2.size + k.size + 1 + F.size + 1 ≤ 10000
                    omega
                  have hz10 : ((⟨#[111, 107, 10, 111, 107, 10, 111, 107, 10]⟩ : ByteArray) ++ F2 ++ ⟨#[10]⟩ ++ ⟨#[102, 97, 108, 115, 101]⟩ ++ ⟨#[32]⟩ ++ G2 ++ k ++ ⟨#[10]⟩ ++ F ++ ⟨#[10]⟩ ++ ⟨#[102, 97, 108, 115, 101]⟩ : ByteArray).size ≤ 10000 := by
                    simp only [ByteArray.size_append]
                    show 9 + F2.size + 1 + 5 + 1 + G2.size + k.size + 1 + F.size + 1 + 5 ≤ 10000
                    omega
                  have hz11 : ((⟨#[111, 107, 10, 111, 107, 10, 111, 107, 10]⟩ : ByteArray) ++ F2 ++ ⟨#[10]⟩ ++ ⟨#[102, 97, 108, 115, 101]⟩ ++ ⟨#[32]⟩ ++ G2 ++ k ++ ⟨#[10]⟩ ++ F ++ ⟨#[10]⟩ ++ ⟨#[102, 97, 108, 115, 101]⟩ ++ ⟨#[32]⟩ : ByteArray).size ≤ 10000 := by
                    simp only [ByteArray.size_append]
                    show 9 + F2.size + 1 + 5 + 1 + G2.size + k.size + 1 + F.size + 1 + 5 + 1 ≤ 10000
                    omega
                  have hz12 : ((⟨#[111, 107, 10, 111, 107, 10, 111, 107, 10]⟩ : ByteArray) ++ F2 ++ ⟨#[10]⟩ ++ ⟨#[102, 97, 108, 115, 101]⟩ ++ ⟨#[32]⟩ ++ G2 ++ k ++ ⟨#[10]⟩ ++ F ++ ⟨#[10]⟩ ++ ⟨#[102, 97, 108, 115, 101]⟩ ++ ⟨#[32]⟩ ++ G3 : ByteArray).size ≤ 10000 := by
                    simp only [ByteArray.size_append]
                    show 9 + F2.size + 1 + 5 + 1 + G2.size + k.size + 1 + F.size + 1 + 5 + 1 + G3.size ≤ 10000
                    omega
                  have JF := Lib.hid (fun s : Since w12 => HFB.out s.w)
                  have JG := Lib.hid (fun s : Since w12 => HGL.out s.w)
                  have JG2 := Lib.hid (fun s : Since w12 => HG2.out s.w)
                  have JG3 := Lib.hid (fun s : Since w12 => HG3.out s.w)
                  obtain ⟨cb0, cb1, cb2, _, _, _, bb⟩ := HK12.out.2.1.cells
                  have C0 := fun s => Since.cell cb0 s
                  have C1 := fun s => Since.cell cb1 s
                  have C2 := fun s => Since.cell cb2 s
                  clear cb0 cb1 cb2 bb hG2 hG3
                  refine wp_region_since (by kernel_rfl) (by kernel_rfl) ?_
                  repeat (go_big_quiet_step (first | (with_reducible exact Since.call (JF.out _)) | (with_reducible exact Since.call (JG.out _)) | (with_reducible exact Since.call (JG2.out _)) | (with_reducible exact Since.call (JG3.out _)) | (with_reducible exact C0 _) | (with_reducible exact C1 _) | (with_reducible exact C2 _)))
                  refine wpQuiet_nil ?_
                  intro w13 hb
                  have HB13 := Lib.hid (HK12.out.2.2.trans (hb.mono HK12.out.2.2.size))
                  clear hb JF JG JG2 JG3 C0 C1 C2
                  go_wp2_with fail
                  refine (HRS2.out _).mono ?_; rintro e w14 ⟨rfl, hb⟩
                  have HB14 := Lib.hid (HB13.out.trans (hb.mono HB13.out.size))
                  clear hb
                  go_wp2_with fail
                  go_ret
                  exact ⟨ret_bool (by simp), HB14.out⟩
                · have hsl : ∀ wx, (Instr.slice 9 (.string ⟨#[116, 114, 117, 101, 10]⟩) none (some (.int .i64 4)) none).run Tryz.prog wx = .ok (.string ⟨#[116, 114, 117, 101]⟩) wx := fun wx => by kernel_rfl
                  have HGL : Hid (∀ w, Calls Tryz.prog 11 #[.bool true] w fun e w' => e = .returned (.string ⟨#[116, 114, 117, 101, 10]⟩) ∧ Below w.heap.size w w') := HG1.out
                  obtain ⟨G2, hG2⟩ : ∃ G, gsW56 b2 = G := ⟨_, rfl⟩
                  obtain ⟨G3, hG3⟩ : ∃ G, gsW56 b3 = G := ⟨_, rfl⟩
                  rw [hG2] at HG2 g2
                  rw [hG3] at HG3 g3
                  have HRS2 : Hid (∀ w, Calls Tryz.prog 12 #[.string ((⟨#[108, 101, 102, 116, 32]⟩ : ByteArray) ++ F ++ ⟨#[10, 114, 105, 103, 104, 116, 32]⟩ ++ F ++ ⟨#[10, 102, 111, 114, 109, 117, 108, 97, 32]⟩ ++ h ++ ⟨#[10, 118, 105, 101, 119, 32]⟩ ++ f ++ ⟨#[59]⟩ ++ g ++ ⟨#[10, 104, 111, 108, 100, 115, 10, 112, 117, 108, 108, 32]⟩ ++ f ++ ⟨#[59]⟩ ++ g ++ ⟨#[10, 101, 120, 99, 104, 97, 110, 103, 101, 10, 104, 111, 108, 100, 115, 10]⟩)] w fun e w' => e = .returned (.string ((⟨#[111, 107, 10, 111, 107, 10, 111, 107, 10]⟩ : ByteArray) ++ F2 ++ ⟨#[10]⟩ ++ ⟨#[116, 114, 117, 101]⟩ ++ ⟨#[32]⟩ ++ G2 ++ k ++ ⟨#[10]⟩ ++ F ++ ⟨#[10]⟩ ++ ⟨#[116, 114, 117, 101]⟩ ++ ⟨#[32]⟩ ++ G3)) ∧ Below w.heap.size w w') := fun w => by
                    have h := HRS.out w
                    rw [← viewOut] at h
                    rw [← hG2, ← hG3]
                    exact h
                  clear HRS HG1
                  have hz1 : ((⟨#[111, 107, 10, 111, 107, 10, 111, 107, 10]⟩ : ByteArray) ++ F2 : ByteArray).size ≤ 10000 := by
                    simp only [ByteArray.size_append]
                    show 9 + F2.size ≤ 10000
                    omega
                  have hz2 : ((⟨#[111, 107, 10, 111, 107, 10, 111, 107, 10]⟩ : ByteArray) ++ F2 ++ ⟨#[10]⟩ : ByteArray).size ≤ 10000 := by
                    simp only [ByteArray.size_append]
                    show 9 + F2.size + 1 ≤ 10000
                    omega
                  have hz3 : ((⟨#[111, 107, 10, 111, 107, 10, 111, 107, 10]⟩ : ByteArray) ++ F2 ++ ⟨#[10]⟩ ++ ⟨#[116, 114, 117, 101]⟩ : ByteArray).size ≤ 10000 := by
                    simp only [ByteArray.size_append]
                    show 9 + F2.size + 1 + 4 ≤ 10000
                    omega
                  have hz4 : ((⟨#[111, 107, 10, 111, 107, 10, 111, 107, 10]⟩ : ByteArray) ++ F2 ++ ⟨#[10]⟩ ++ ⟨#[116, 114, 117, 101]⟩ ++ ⟨#[32]⟩ : ByteArray).size ≤ 10000 := by
                    simp only [ByteArray.size_append]
                    show 9 + F2.size + 1 + 4 + 1 ≤ 10000
                    omega
                  have hz5 : ((⟨#[111, 107, 10, 111, 107, 10, 111, 107, 10]⟩ : ByteArray) ++ F2 ++ ⟨#[10]⟩ ++ ⟨#[116, 114, 117, 101]⟩ ++ ⟨#[32]⟩ ++ G2 : ByteArray).size ≤ 10000 := by
                    simp only [ByteArray.size_append]
                    show 9 + F2.size + 1 + 4 + 1 + G2.size ≤ 10000
                    omega
                  have hz6 : ((⟨#[111, 107, 10, 111, 107, 10, 111, 107, 10]⟩ : ByteArray) ++ F2 ++ ⟨#[10]⟩ ++ ⟨#[116, 114, 117, 101]⟩ ++ ⟨#[32]⟩ ++ G2 ++ k : ByteArray).size ≤ 10000 := by
                    simp only [ByteArray.size_append]
                    show 9 + F2.size + 1 + 4 + 1 + G2.size + k.size ≤ 10000
                    omega
                  have hz7 : ((⟨#[111, 107, 10, 111, 107, 10, 111, 107, 10]⟩ : ByteArray) ++ F2 ++ ⟨#[10]⟩ ++ ⟨#[116, 114, 117, 101]⟩ ++ ⟨#[32]⟩ ++ G2 ++ k ++ ⟨#[10]⟩ : ByteArray).size ≤ 10000 := by
                    simp only [ByteArray.size_append]
                    show 9 + F2.size + 1 + 4 + 1 + G2.size + k.size + 1 ≤ 10000
                    omega
                  have hz8 : ((⟨#[111, 107, 10, 111, 107, 10, 111, 107, 10]⟩ : ByteArray) ++ F2 ++ ⟨#[10]⟩ ++ ⟨#[116, 114, 117, 101]⟩ ++ ⟨#[32]⟩ ++ G2 ++ k ++ ⟨#[10]⟩ ++ F : ByteArray).size ≤ 10000 := by
                    simp only [ByteArray.size_append]
                    show 9 + F2.size + 1 + 4 + 1 + G2.size + k.size + 1 + F.size ≤ 10000
                    omega
                  have hz9 : ((⟨#[111, 107, 10, 111, 107, 10, 111, 107, 10]⟩ : ByteArray) ++ F2 ++ ⟨#[10]⟩ ++ ⟨#[116, 114, 117, 101]⟩ ++ ⟨#[32]⟩ ++ G2 ++ k ++ ⟨#[10]⟩ ++ F ++ ⟨#[10]⟩ : ByteArray).size ≤ 10000 := by
                    simp only [ByteArray.size_append]
                    show 9 + F2.size + 1 + 4 + 1 + G2.size + k.size + 1 + F.size + 1 ≤ 10000
                    omega
                  have hz10 : ((⟨#[111, 107, 10, 111, 107, 10, 111, 107, 10]⟩ : ByteArray) ++ F2 ++ ⟨#[10]⟩ ++ ⟨#[116, 114, 117, 101]⟩ ++ ⟨#[32]⟩ ++ G2 ++ k ++ ⟨#[10]⟩ ++ F ++ ⟨#[10]⟩ ++ ⟨#[116, 114, 117, 101]⟩ : ByteArray).size ≤ 10000 := by
                    simp only [ByteArray.size_append]
                    show 9 + F2.size + 1 + 4 + 1 + G2.size + k.size + 1 + F.size + 1 + 4 ≤ 10000
                    omega
                  have hz11 : ((⟨#[111, 107, 10, 111, 107, 10, 111, 107, 10]⟩ : ByteArray) ++ F2 ++ ⟨#[10]⟩ ++ ⟨#[116, 114, 117, 101]⟩ ++ ⟨#[32]⟩ ++ G2 ++ k ++ ⟨#[10]⟩ ++ F ++ ⟨#[10]⟩ ++ ⟨#[116, 114, 117, 101]⟩ ++ ⟨#[32]⟩ : ByteArray).size ≤ 10000 := by
                    simp only [ByteArray.size_append]
                    show 9 + F2.size + 1 + 4 + 1 + G2.size + k.size + 1 + F.size + 1 + 4 + 1 ≤ 10000
                    omega
                  have hz12 : ((⟨#[111, 107, 10, 111, 107, 10, 111, 107, 10]⟩ : ByteArray) ++ F2 ++ ⟨#[10]⟩ ++ ⟨#[116, 114, 117, 101]⟩ ++ ⟨#[32]⟩ ++ G2 ++ k ++ ⟨#[10]⟩ ++ F ++ ⟨#[10]⟩ ++ ⟨#[116, 114, 117, 101]⟩ ++ ⟨#[32]⟩ ++ G3 : ByteArray).size ≤ 10000 := by
                    simp only [ByteArray.size_append]
                    show 9 + F2.size + 1 + 4 + 1 + G2.size + k.size + 1 + F.size + 1 + 4 + 1 + G3.size ≤ 10000
                    omega
                  have JF := Lib.hid (fun s : Since w12 => HFB.out s.w)
                  have JG := Lib.hid (fun s : Since w12 => HGL.out s.w)
                  have JG2 := Lib.hid (fun s : Since w12 => HG2.out s.w)
                  have JG3 := Lib.hid (fun s : Since w12 => HG3.out s.w)
                  obtain ⟨cb0, cb1, cb2, _, _, _, bb⟩ := HK12.out.2.1.cells
                  have C0 := fun s => Since.cell cb0 s
                  have C1 := fun s => Since.cell cb1 s
                  have C2 := fun s => Since.cell cb2 s
                  clear cb0 cb1 cb2 bb hG2 hG3
                  refine wp_region_since (by kernel_rfl) (by kernel_rfl) ?_
                  repeat (go_big_quiet_step (first | (with_reducible exact Since.call (JF.out _)) | (with_reducible exact Since.call (JG.out _)) | (with_reducible exact Since.call (JG2.out _)) | (with_reducible exact Since.call (JG3.out _)) | (with_reducible exact C0 _) | (with_reducible exact C1 _) | (with_reducible exact C2 _)))
                  refine wpQuiet_nil ?_
                  intro w13 hb
                  have HB13 := Lib.hid (HK12.out.2.2.trans (hb.mono HK12.out.2.2.size))
                  clear hb JF JG JG2 JG3 C0 C1 C2
                  go_wp2_with fail
                  refine (HRS2.out _).mono ?_; rintro e w14 ⟨rfl, hb⟩
                  have HB14 := Lib.hid (HB13.out.trans (hb.mono HB13.out.size))
                  clear hb
                  go_wp2_with fail
                  go_ret
                  exact ⟨ret_bool (by simp), HB14.out⟩
              · have h6I : (6 : Int) < rk := by omega
                go_wp2_with fail
                refine (HPH.out _).mono ?_; rintro e w7 ⟨rfl, hb⟩
                have HB7 := Lib.hid (HKW.out.2.2.trans (hb.mono HKW.out.2.2.size)); clear hb
                go_wp2_with fail
                refine (HRK.out _).mono ?_; rintro e w8 ⟨rfl, hb⟩
                have HB8 := Lib.hid (HB7.out.trans (hb.mono HB7.out.size)); clear hb
                go_wp2_with fail
                go_ret
                exact ⟨rfl, HB8.out⟩
        · have hm5 : (4 : Int) < (m : Int) := by omega
          go_wp2_with fail
          go_ret
          exact ⟨ret_bool (by simp), HB6.out⟩
    · go_enter Tryz.func3, Tryz.ntmps3
      go_wp2_with fail
      go_ret
      exact ⟨rfl, Below.refl _ _⟩
  · go_enter Tryz.func3, Tryz.ntmps3
    go_wp2_with fail
    go_ret
    exact ⟨rfl, Below.refl _ _⟩
end Go.Proofs.YtdcnpjekmnlgjaaGreatDoor
