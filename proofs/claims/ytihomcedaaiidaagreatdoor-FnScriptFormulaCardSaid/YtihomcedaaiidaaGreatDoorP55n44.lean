/- The walk of the law, and what it leans on last. Conditions: those that each theorem states. -/
import Derived.Test.YtihomcedaaiidaaGreatDoorP55n20
import Derived.Test.YtihomcedaaiidaaGreatDoorP55n29
import Derived.Test.YtihomcedaaiidaaGreatDoorP55n32
import Derived.Test.YtihomcedaaiidaaGreatDoorP55n40
import Derived.Test.YtihomcedaaiidaaGreatDoorP55n43
namespace Go.Proofs.YtihomcedaaiidaaGreatDoor
open Go.RowKit
set_option linter.unusedVariables false
set_option maxRecDepth 100000
theorem nat_valid55 {n : Int} {S R : ByteArray} (h : validB n S R = true) : ∃ m : Nat, n = (m : Int) := by
  have h0 := h
  unfold validB inB at h0
  simp at h0
  exact Int.eq_ofNat_of_zero_le (by omega)
theorem rowLen55 {k : IntKind} {w : World} {a : Option Addr} {len cap : Nat} {zs : List Int} (h : IsRow k w a len cap zs) : len ≤ maxLen := by
  rcases h with ⟨_, h, _⟩ | ⟨_, _, h1, h2, _⟩
  · rw [h]; decide
  · omega
/-- Either nothing is told, or the sentence is read and the structure is valid. -/
theorem hin_case55 (f : ByteArray) (hf : f.size ≤ 9223372036854775807) (n : Int) (S R : ByteArray) (hS : S.size ≤ 9223372036854775807) (hR : R.size ≤ 9223372036854775807) :
    ((∀ w, Calls Tryz.prog 5 #[strV n S R, .string f] w fun en w' => en = .returned (.tuple #[.bool false, .bool false]) ∧ Below w.heap.size w w') ∧
     (∀ w, Calls Tryz.prog 6 #[strV n S R, .string f] w fun en w' => en = .returned (.tuple #[.bool false, .bool false]) ∧ Below w.heap.size w w')) ∨
    ∃ (m : Nat) (φ : Fm.T), n = (m : Int) ∧ validB m S R = true ∧ readB f = some φ ∧ Fm.free φ = 0 := by
  cases hv : validB n S R
  · exact .inl ⟨fun w => implHoldsIn_no f hf n S R hS hR hv w, fun w => specHoldsIn_no f n S R hS hR hv w⟩
  · obtain ⟨m, rfl⟩ := nat_valid55 hv
    have hI := fun w => implHoldsIn_any f hf m S R hv w
    have hP := fun w => specHoldsIn_any f hf m S R hv w
    cases hr : readB f with
    | none =>
      have e : hin f (stOf m S R) = (false, false) := by unfold hin; rw [hr]
      rw [e] at hI hP
      exact .inl ⟨hI, hP⟩
    | some φ =>
      by_cases h0 : Fm.free φ = 0
      · exact .inr ⟨m, φ, rfl, hv, rfl, h0⟩
      · have e : hin f (stOf m S R) = (false, false) := by unfold hin; rw [hr]; simp only [h0, if_false]
        rw [e] at hI hP
        exact .inl ⟨hI, hP⟩
def gsW55 (b : Bool) : ByteArray := truthB b ++ ⟨#[10]⟩
theorem gsWord55 (b : Bool) (w : World) : Calls Tryz.prog 15 #[.bool b] w fun e w' => e = .returned (.string (gsW55 b)) ∧ Below w.heap.size w w' := by
  cases b
  all_goals
    go_enter Tryz.func15, Tryz.ntmps15
    go_wp2_with fail
    go_ret
    exact ⟨rfl, Below.refl _ _⟩
theorem gsW55_size (b : Bool) : (gsW55 b).size ≤ 6 := by cases b <;> decide
theorem gsLine55 (s : ByteArray) (hs : s.size ≤ 100000) (w : World) : Calls Tryz.prog 16 #[.string s, .bool true] w fun e w' => e = .returned (.string (s ++ ⟨#[10]⟩)) ∧ Below w.heap.size w w' := by
  have h : (s ++ ⟨#[10]⟩ : ByteArray).size ≤ 100001 := by rw [ByteArray.size_append]; show s.size + 1 ≤ _; omega
  go_enter Tryz.func16, Tryz.ntmps16
  go_wp2_with fail
  go_ret
  exact ⟨rfl, Below.refl _ _⟩
theorem nums2_at {W : World} {T : TypeId} (r k : Nat) {W' : World} (hb : Below (W.heap.size + 1) (W.alloc (.cells #[.int .i64 (r : Int), .int .i64 (k : Int)] T)) W') : NumsAt W' (.slice (some ⟨W.heap.size, 0, none⟩) 2 2) [r, k] := by
  refine .inr ⟨_, _, 2, rfl, Nat.le_refl 2, by decide, ?_, fun j hj => ?_⟩
  · have := hb.size
    simp at this
    omega
  · rw [hb.cell (by simp), Nat.zero_add, World.cell?_alloc_new]
    have hj2 : j < 2 := hj
    rcases (by omega : j = 0 ∨ j = 1) with rfl | rfl <;> simp
/-- What is known of a closed short sentence in a valid structure and the turned one. -/
theorem fo_ok {m : Nat} {S R f : ByteArray} {φ : Fm.T} (hv : validB m S R = true) (hr : readB f = some φ) (h0 : Fm.free φ = 0) (hf : f.size ≤ 500) :
    ∃ (h : ByteArray) (b1 b2 : Bool), FoOk m S R (bitsOf (oneAt S) m) (turnR m R) f (pushB φ) h φ (Fm.rank φ) (vtL (Fm.vars φ) 4).size b1 b2 ∧ (pushB φ).size ≤ 1000 ∧ h.size ≤ 1000 ∧ hin h (stOf m (bitsOf (oneAt S) m) (turnR m R)) = (b1, true) := by
  obtain ⟨h1, h8, _, _, _, _⟩ := valid_is hv
  obtain ⟨p1, p2, p3, _⟩ := push_parts hr h0 hf (stOf m S R)
  have p4 := fun a => (push_parts hr h0 hf a).2.2.2
  have hl := read_len p1
  have hs := Fm.len_swap (Fm.pushT false φ)
  have pz : (pushB φ).size = (Fm.text (Fm.pushT false φ)).length := by unfold pushB; rw [txtS_size]
  have kr : readB (txtS (Fm.text (Fm.swap (Fm.pushT false φ)))) = some (Fm.swap (Fm.pushT false φ)) := readB_text (by omega)
  have hrl := (Fm.read_iff (s := f.data.toList)).1 hr
  have hrk := rank_text φ
  have hlen : (Fm.text φ).length ≤ 500 := by rw [← hrl.1]; simpa using hf
  have hz : (txtS (Fm.text (Fm.swap (Fm.pushT false φ)))).size ≤ 1000 := by rw [txtS_size]; omega
  refine ⟨_, _, _, ⟨hv, valid_bits h1 h8 _ _, hr, by omega, vtL_size _ _, by omega, by omega, fun w => by rw [← rank_some hr]; exact RankOf_any f w (by omega), fun w => WidthOf_is f φ hr (by omega) w, fun w => PushNot_any f φ hr (by omega) w, fun w => ?_, hin_some hr h0 _, hin_some hr h0 _, ?_, ?_⟩, p3, hz, ?_⟩
  · have := implReverse_any (pushB φ) (by omega) w
    rw [rvRes_some p1 p2] at this
    have e : shortV (some (Fm.swap (Fm.pushT false φ))) = .tuple #[.string (txtS (Fm.text (Fm.swap (Fm.pushT false φ)))), .bool true] := by
      show (if _ then _ else _) = _
      rw [if_pos (by omega)]
    rw [e] at this
    exact this
  · rw [p4, hin_some hr h0]
  · rw [p4, hin_some hr h0]
  · rw [turn_hin h1 p1 p2 kr, p4, hin_some hr h0]
set_option maxHeartbeats 4000000 in
theorem fnScriptFormula_walk (a0 : Option Addr) (len0 cap0 : Nat) (z0 : List Int) (w : World) (w0 : IsRow .u8 w a0 len0 cap0 z0) (ht : Tab w) :
    Calls Tryz.prog 3 #[.slice a0 len0 cap0] w fun e w' => e = .returned (.bool true) ∧ Below w.heap.size w w' := by
  have m0 := rowLen55 w0
  unfold maxLen at m0
  have W0 := Lib.hid w0; have HT := Lib.hid ht; clear w0 ht
  by_cases l0 : (len0 : Int) ≤ 1048576
  · go_enter Tryz.func3, Tryz.ntmps3
    go_wp2_with fail
    refine (DrawHoldsIn_any _ _ _ _ _ W0.out).mono ?_; rintro e w1 ⟨n, S, R, f, n0, n1, hS, hR, hf, rfl, hb⟩
    have HB1 := Lib.hid hb; clear hb
    rcases hin_case55 f (by omega) n S R (by omega) (by omega) with ⟨hi, hs⟩ | ⟨m, φ, rfl, hv, hr, h0⟩
    · have HI := Lib.hid hi
      have HS := Lib.hid hs
      clear hi hs hS hR
      unfold strV at HI HS ⊢
      have hal : Below w1.heap.size w1 (w1.alloc (.cells #[.int .i64 n, .string S, .string R] 24)) := (Below.refl _ _).alloc (Nat.le_refl _) _
      have HB2 := Lib.hid (HB1.out.trans (hal.mono HB1.out.size))
      have HXa2 : Hid (SBlk (w1.alloc (.cells #[.int .i64 n, .string S, .string R] 24)) w1.heap.size n S R) := SBlk.new w1 n S R
      clear hal
      obtain ⟨ca0, ca1, ca2, fa0, fa1, fa2, ba⟩ := HXa2.out.cells
      go_wp2_with fail
      refine (HI.out _).mono ?_; rintro e w3 ⟨rfl, hb⟩
      have HB3 := Lib.hid (HB2.out.trans (hb.mono HB2.out.size))
      have HXa3 := Lib.hid (HXa2.out.below hb HXa2.out.cells.2.2.2.2.2.2)
      clear hb
      clear ca0 ca1 ca2 fa0 fa1 fa2 ba
      obtain ⟨ca0, ca1, ca2, fa0, fa1, fa2, ba⟩ := HXa3.out.cells
      go_wp2_with fail
      refine (HS.out _).mono ?_; rintro e w4 ⟨rfl, hb⟩
      have HB4 := Lib.hid (HB3.out.trans (hb.mono HB3.out.size))
      have HXa4 := Lib.hid (HXa3.out.below hb HXa3.out.cells.2.2.2.2.2.2)
      clear hb
      clear ca0 ca1 ca2 fa0 fa1 fa2 ba
      go_wp2_with fail
      go_ret
      exact ⟨ret_bool (by simp), HB4.out⟩
    · obtain ⟨h, b1, b2, fo, gz, hz, hb3⟩ := fo_ok hv hr h0 (by omega)
      have HI := Lib.hid (fun w => implHoldsIn_any f (by omega) m S R hv w)
      rw [fo.t1] at HI
      have HS := Lib.hid (fun w => specHoldsIn_any f (by omega) m S R hv w)
      rw [fo.t1] at HS
      have HPN := Lib.hid fo.psh
      have HTU := Lib.hid (fun w => Turn_yes m S R hv w)
      have HRV := Lib.hid fo.rev
      have HJ1 := Lib.hid (fun w => implHoldsIn_any (pushB φ) (by omega) m (bitsOf (oneAt S) m) (turnR m R) fo.u w)
      rw [fo.t4] at HJ1
      have HJ2 := Lib.hid (fun w => implHoldsIn_any h (by omega) m (bitsOf (oneAt S) m) (turnR m R) fo.u w)
      rw [hb3] at HJ2
      have HFA := Lib.hid (fun w => FormatStructure_any m S R fo.v w)
      have HFB := Lib.hid (fun w => FormatStructure_any m (bitsOf (oneAt S) m) (turnR m R) fo.u w)
      have hFz := fmt_size fo.v
      have hGz := fmt_size fo.u
      have HSH := Lib.hid (fun w => ShowFormula_any f φ hr (by omega) w)
      have hrlen := (Fm.read_iff (s := f.data.toList)).1 hr
      have hEz : (shB φ).size ≤ 2000 := by
        have h1 := shB_size φ
        have h2 : (Fm.text φ).length ≤ 72 := by rw [← hrlen.1]; simpa using hf
        omega
      have HRK := Lib.hid fo.rnk
      have HWD := Lib.hid fo.wid
      have hk4 := fo.hk
      have hr4 := fo.hr
      have HSn := Lib.hid (fmt_no fo.v)
      have HSn2 := Lib.hid (fmt_no fo.u)
      have hfno := ge_no (read_ge hr)
      have HST := Lib.hid (fun w ht => form_steps w ht m S R (bitsOf (oneAt S) m) (turnR m R) f (pushB φ) h φ (Fm.rank φ) (vtL (Fm.vars φ) 4).size b1 b2 fo)
      have HG1 := Lib.hid (fun w => gsWord55 b1 w)
      have HG2 := Lib.hid (fun w => gsWord55 b2 w)
      have HGL := Lib.hid (fun w => gsLine55 h (by omega) w)
      have g2 := gsW55_size b2
      have z1 := truthB_size b1
      have z2 := truthB_size b2
      clear fo hb3 hrlen hv hr h0
      generalize pushB φ = g at *
      generalize shB φ = E at *
      generalize Fm.rank φ = rk at *
      generalize (vtL (Fm.vars φ) 4).size = wd at *
      generalize bitsOf (oneAt S) m = TS at *
      generalize turnR m R = TR at *
      have hNz := numsB_size [rk, wd] (by intro x hx; simp at hx; omega)
      have HNU := Lib.hid (fun v w hv ht => implFmt_nums v [rk, wd] w hv (by simp) (by intro x hx; simp at hx; omega) ht)
      have hlines : (linesB (formLines (fmtS S R) (fmtS TS TR) f)).size ≤ 20000 := by
        rw [linesB_size]
        simp only [formLines, List.map_cons, List.map_nil, List.sum_cons, List.sum_nil, ByteArray.size_append]
        show 5 + (fmtS S R).size + 1 + (6 + (fmtS TS TR).size + 1 + (8 + f.size + 1 + (4 + 1 + (4 + 1 + (5 + 1 + (4 + 1 + (5 + 1 + (7 + 1 + 0)))))))) ≤ 20000
        omega
      have hN2 : (numsB [rk, wd]).size ≤ 45 := hNz
      have houts : ∀ j, (outT ((formAns E (numsB [rk, wd]) (truthB b1) (truthB b2) g h).take j)).size ≤ 40000 := fun j => by
        refine Nat.le_trans (outT_take _ j) ?_
        rw [outT_size]
        simp only [formAns, List.map_cons, List.map_nil, List.sum_cons, List.sum_nil, ByteArray.size_append]
        show 2 + 1 + (2 + 1 + (2 + 1 + (E.size + 1 + ((numsB [rk, wd]).size + 1 + ((truthB b1).size + 1 + (truthB b2).size + 1 + (g.size + 1 + ((truthB b1).size + 1 + (truthB b2).size + 1 + (h.size + 1 + 0)))))))) ≤ 40000
        omega
      have HRS := Lib.hid (fun w ht => RunScript_lines (formLines (fmtS S R) (fmtS TS TR) f) (formAns E (numsB [rk, wd]) (truthB b1) (truthB b2) g h) (formLines_no _ _ _ HSn.out HSn2.out hfno.1) (formLines_ne _ _ _) (by show 9 ≤ 99; omega) hlines houts w (HST.out w ht))
      rw [← formScript] at HRS
      clear hlines houts HSn HSn2 hfno HST z1 z2 hNz
      unfold strV at HI HS HTU HJ1 HJ2 HFA HFB ⊢
      generalize fmtS S R = F at *
      generalize fmtS TS TR = F2 at *
      generalize hNB : numsB [rk, wd] = NB at *
      have hf5 : ¬ (500 : Int) < (f.size : Int) := by omega
      have HTE := Lib.hid HTU.out
      have hal : Below w1.heap.size w1 (w1.alloc (.cells #[.int .i64 (m : Int), .string S, .string R] 24)) := (Below.refl _ _).alloc (Nat.le_refl _) _
      have HB2 := Lib.hid (HB1.out.trans (hal.mono HB1.out.size))
      have HXa2 : Hid (SBlk (w1.alloc (.cells #[.int .i64 (m : Int), .string S, .string R] 24)) w1.heap.size (m : Int) S R) := SBlk.new w1 (m : Int) S R
      clear hal
      obtain ⟨ca0, ca1, ca2, fa0, fa1, fa2, ba⟩ := HXa2.out.cells
      go_wp2_with fail
      refine (HI.out _).mono ?_; rintro e w3 ⟨rfl, hb⟩
      have HB3 := Lib.hid (HB2.out.trans (hb.mono HB2.out.size))
      have HXa3 := Lib.hid (HXa2.out.below hb HXa2.out.cells.2.2.2.2.2.2)
      clear hb
      clear ca0 ca1 ca2 fa0 fa1 fa2 ba
      obtain ⟨ca0, ca1, ca2, fa0, fa1, fa2, ba⟩ := HXa3.out.cells
      go_wp2_with fail
      refine (HS.out _).mono ?_; rintro e w4 ⟨rfl, hb⟩
      have HB4 := Lib.hid (HB3.out.trans (hb.mono HB3.out.size))
      have HXa4 := Lib.hid (HXa3.out.below hb HXa3.out.cells.2.2.2.2.2.2)
      clear hb
      clear ca0 ca1 ca2 fa0 fa1 fa2 ba
      go_wp2_with fail
      refine (HPN.out _).mono ?_; rintro e w5 ⟨rfl, hb⟩
      have HB5 := Lib.hid (HB4.out.trans (hb.mono HB4.out.size))
      have HXa5 := Lib.hid (HXa4.out.below hb HXa4.out.cells.2.2.2.2.2.2)
      clear hb
      obtain ⟨ca0, ca1, ca2, fa0, fa1, fa2, ba⟩ := HXa5.out.cells
      go_wp2_with fail
      refine (HTU.out _).mono ?_; rintro e w6 ⟨rfl, hb⟩
      have HB6 := Lib.hid (HB5.out.trans (hb.mono HB5.out.size))
      have HXa6 := Lib.hid (HXa5.out.below hb HXa5.out.cells.2.2.2.2.2.2)
      clear hb
      clear ca0 ca1 ca2 fa0 fa1 fa2 ba
      have hal : Below w6.heap.size w6 (w6.alloc (.cells #[.int .i64 (m : Int), .string TS, .string TR] 24)) := (Below.refl _ _).alloc (Nat.le_refl _) _
      have HB7 := Lib.hid (HB6.out.trans (hal.mono HB6.out.size))
      have HXa7 := Lib.hid (HXa6.out.below hal HXa6.out.cells.2.2.2.2.2.2)
      have HXb7 : Hid (SBlk (w6.alloc (.cells #[.int .i64 (m : Int), .string TS, .string TR] 24)) w6.heap.size (m : Int) TS TR) := SBlk.new w6 (m : Int) TS TR
      clear hal
      go_wp2_with fail
      refine (HRV.out _).mono ?_; rintro e w8 ⟨rfl, hb⟩
      have HB8 := Lib.hid (HB7.out.trans (hb.mono HB7.out.size))
      have HXa8 := Lib.hid (HXa7.out.below hb HXa7.out.cells.2.2.2.2.2.2)
      have HXb8 := Lib.hid (HXb7.out.below hb HXb7.out.cells.2.2.2.2.2.2)
      clear hb
      obtain ⟨cb0, cb1, cb2, fb0, fb1, fb2, bb⟩ := HXb8.out.cells
      go_wp2_with fail
      refine (HJ1.out _).mono ?_; rintro e w9 ⟨rfl, hb⟩
      have HB9 := Lib.hid (HB8.out.trans (hb.mono HB8.out.size))
      have HXa9 := Lib.hid (HXa8.out.below hb HXa8.out.cells.2.2.2.2.2.2)
      have HXb9 := Lib.hid (HXb8.out.below hb HXb8.out.cells.2.2.2.2.2.2)
      clear hb
      clear cb0 cb1 cb2 fb0 fb1 fb2 bb
      have ht1 : ((⟨#[108, 101, 102, 116, 32]⟩ : ByteArray) ++ F : ByteArray).size ≤ 20000 := by
        simp only [ByteArray.size_append]
        show 5 + F.size ≤ 20000
        omega
      have ht2 : ((⟨#[108, 101, 102, 116, 32]⟩ : ByteArray) ++ F ++ ⟨#[10, 114, 105, 103, 104, 116, 32]⟩ : ByteArray).size ≤ 20000 := by
        simp only [ByteArray.size_append]
        show 5 + F.size + 7 ≤ 20000
        omega
      have ht3 : ((⟨#[108, 101, 102, 116, 32]⟩ : ByteArray) ++ F ++ ⟨#[10, 114, 105, 103, 104, 116, 32]⟩ ++ F2 : ByteArray).size ≤ 20000 := by
        simp only [ByteArray.size_append]
        show 5 + F.size + 7 + F2.size ≤ 20000
        omega
      have ht4 : ((⟨#[108, 101, 102, 116, 32]⟩ : ByteArray) ++ F ++ ⟨#[10, 114, 105, 103, 104, 116, 32]⟩ ++ F2 ++ ⟨#[10, 102, 111, 114, 109, 117, 108, 97, 32]⟩ : ByteArray).size ≤ 20000 := by
        simp only [ByteArray.size_append]
        show 5 + F.size + 7 + F2.size + 9 ≤ 20000
        omega
      have ht5 : ((⟨#[108, 101, 102, 116, 32]⟩ : ByteArray) ++ F ++ ⟨#[10, 114, 105, 103, 104, 116, 32]⟩ ++ F2 ++ ⟨#[10, 102, 111, 114, 109, 117, 108, 97, 32]⟩ ++ f : ByteArray).size ≤ 20000 := by
        simp only [ByteArray.size_append]
        show 5 + F.size + 7 + F2.size + 9 + f.size ≤ 20000
        omega
      have ht6 : ((⟨#[108, 101, 102, 116, 32]⟩ : ByteArray) ++ F ++ ⟨#[10, 114, 105, 103, 104, 116, 32]⟩ ++ F2 ++ ⟨#[10, 102, 111, 114, 109, 117, 108, 97, 32]⟩ ++ f ++ ⟨#[10, 115, 104, 111, 119, 10, 114, 97, 110, 107, 10, 104, 111, 108, 100, 115, 10, 112, 117, 115, 104, 10, 104, 111, 108, 100, 115, 10, 114, 101, 118, 101, 114, 115, 101, 10]⟩ : ByteArray).size ≤ 20000 := by
        simp only [ByteArray.size_append]
        show 5 + F.size + 7 + F2.size + 9 + f.size + 36 ≤ 20000
        omega
      go_upto_region 14 with fail
      obtain ⟨ca0, ca1, ca2, fa0, fa1, fa2, ba⟩ := HXa9.out.cells
      obtain ⟨cb0, cb1, cb2, fb0, fb1, fb2, bb⟩ := HXb9.out.cells
      have JF := Lib.hid (fun s : Since w9 => HFA.out s.w)
      have JG := Lib.hid (fun s : Since w9 => HFB.out s.w)
      have A0 := fun s => Since.cell ca0 s
      have A1 := fun s => Since.cell ca1 s
      have A2 := fun s => Since.cell ca2 s
      have D0 := fun s => Since.cell cb0 s
      have D1 := fun s => Since.cell cb1 s
      have D2 := fun s => Since.cell cb2 s
      clear ca0 ca1 ca2 fa0 fa1 fa2 ba cb0 cb1 cb2 fb0 fb1 fb2 bb
      refine wp_region_since (by kernel_rfl) (by kernel_rfl) ?_
      repeat (go_big_quiet_step (first | (with_reducible exact Since.call (JF.out _)) | (with_reducible exact Since.call (JG.out _)) | (with_reducible exact A0 _) | (with_reducible exact A1 _) | (with_reducible exact A2 _) | (with_reducible exact D0 _) | (with_reducible exact D1 _) | (with_reducible exact D2 _)))
      refine wpQuiet_nil ?_
      intro w10 hb
      have HB10 := Lib.hid (HB9.out.trans (hb.mono HB9.out.size))
      have HXa10 := Lib.hid (HXa9.out.below hb HXa9.out.cells.2.2.2.2.2.2)
      have HXb10 := Lib.hid (HXb9.out.below hb HXb9.out.cells.2.2.2.2.2.2)
      clear hb JF JG A0 A1 A2 D0 D1 D2 ht1 ht2 ht3 ht4 ht5 ht6
      go_upto_region 15 with fail
      cases b1
      · have hsl : ∀ wx, (Instr.slice 9 (.string ⟨#[102, 97, 108, 115, 101, 10]⟩) none (some (.int .i64 5)) none).run Tryz.prog wx = .ok (.string ⟨#[102, 97, 108, 115, 101]⟩) wx := fun wx => by kernel_rfl
        have HGW : Hid (∀ w, Calls Tryz.prog 15 #[.bool false] w fun e w' => e = .returned (.string ⟨#[102, 97, 108, 115, 101, 10]⟩) ∧ Below w.heap.size w w') := HG1.out
        obtain ⟨G2, hG2⟩ : ∃ G, gsW55 b2 = G := ⟨_, rfl⟩
        rw [hG2] at HG2 g2
        have HRS2 : Hid (∀ w, Tab w → Calls Tryz.prog 17 #[.string ((⟨#[108, 101, 102, 116, 32]⟩ : ByteArray) ++ F ++ ⟨#[10, 114, 105, 103, 104, 116, 32]⟩ ++ F2 ++ ⟨#[10, 102, 111, 114, 109, 117, 108, 97, 32]⟩ ++ f ++ ⟨#[10, 115, 104, 111, 119, 10, 114, 97, 110, 107, 10, 104, 111, 108, 100, 115, 10, 112, 117, 115, 104, 10, 104, 111, 108, 100, 115, 10, 114, 101, 118, 101, 114, 115, 101, 10]⟩)] w fun e w' => e = .returned (.string ((⟨#[111, 107, 10, 111, 107, 10, 111, 107, 10]⟩ : ByteArray) ++ E ++ ⟨#[10]⟩ ++ NB ++ ⟨#[10]⟩ ++ ⟨#[102, 97, 108, 115, 101]⟩ ++ ⟨#[32]⟩ ++ G2 ++ g ++ ⟨#[10]⟩ ++ ⟨#[102, 97, 108, 115, 101]⟩ ++ ⟨#[32]⟩ ++ G2 ++ (h ++ ⟨#[10]⟩))) ∧ Below w.heap.size w w') := fun w ht => by
          have h := HRS.out w ht
          rw [← formOut] at h
          rw [← hG2]
          exact h
        clear HRS HG1 hG2
        have hlen : (⟨#[102, 97, 108, 115, 101, 10]⟩ : ByteArray).size = 6 := rfl
        have hw5 : IntKind.i64.wrap 5 = 5 := by decide
        have hz1 : ((⟨#[111, 107, 10, 111, 107, 10, 111, 107, 10]⟩ : ByteArray) ++ E : ByteArray).size ≤ 10000 := by
          simp only [ByteArray.size_append]
          show 9 + E.size ≤ 10000
          omega
        have hz2 : ((⟨#[111, 107, 10, 111, 107, 10, 111, 107, 10]⟩ : ByteArray) ++ E ++ ⟨#[10]⟩ : ByteArray).size ≤ 10000 := by
          simp only [ByteArray.size_append]
          show 9 + E.size + 1 ≤ 10000
          omega
        have hz3 : ((⟨#[111, 107, 10, 111, 107, 10, 111, 107, 10]⟩ : ByteArray) ++ E ++ ⟨#[10]⟩ ++ NB : ByteArray).size ≤ 10000 := by
          simp only [ByteArray.size_append]
          show 9 + E.size + 1 + NB.size ≤ 10000
          omega
        have hz4 : ((⟨#[111, 107, 10, 111, 107, 10, 111, 107, 10]⟩ : ByteArray) ++ E ++ ⟨#[10]⟩ ++ NB ++ ⟨#[10]⟩ : ByteArray).size ≤ 10000 := by
          simp only [ByteArray.size_append]
          show 9 + E.size + 1 + NB.size + 1 ≤ 10000
          omega
        have hz5 : ((⟨#[111, 107, 10, 111, 107, 10, 111, 107, 10]⟩ : ByteArray) ++ E ++ ⟨#[10]⟩ ++ NB ++ ⟨#[10]⟩ ++ ⟨#[102, 97, 108, 115, 101]⟩ : ByteArray).size ≤ 10000 := by
          simp only [ByteArray.size_append]
          show 9 + E.size + 1 + NB.size + 1 + 5 ≤ 10000
          omega
        have hz6 : ((⟨#[111, 107, 10, 111, 107, 10, 111, 107, 10]⟩ : ByteArray) ++ E ++ ⟨#[10]⟩ ++ NB ++ ⟨#[10]⟩ ++ ⟨#[102, 97, 108, 115, 101]⟩ ++ ⟨#[32]⟩ : ByteArray).size ≤ 10000 := by
          simp only [ByteArray.size_append]
          show 9 + E.size + 1 + NB.size + 1 + 5 + 1 ≤ 10000
          omega
        have hz7 : ((⟨#[111, 107, 10, 111, 107, 10, 111, 107, 10]⟩ : ByteArray) ++ E ++ ⟨#[10]⟩ ++ NB ++ ⟨#[10]⟩ ++ ⟨#[102, 97, 108, 115, 101]⟩ ++ ⟨#[32]⟩ ++ G2 : ByteArray).size ≤ 10000 := by
          simp only [ByteArray.size_append]
          show 9 + E.size + 1 + NB.size + 1 + 5 + 1 + G2.size ≤ 10000
          omega
        have hz8 : ((⟨#[111, 107, 10, 111, 107, 10, 111, 107, 10]⟩ : ByteArray) ++ E ++ ⟨#[10]⟩ ++ NB ++ ⟨#[10]⟩ ++ ⟨#[102, 97, 108, 115, 101]⟩ ++ ⟨#[32]⟩ ++ G2 ++ g : ByteArray).size ≤ 10000 := by
          simp only [ByteArray.size_append]
          show 9 + E.size + 1 + NB.size + 1 + 5 + 1 + G2.size + g.size ≤ 10000
          omega
        have hz9 : ((⟨#[111, 107, 10, 111, 107, 10, 111, 107, 10]⟩ : ByteArray) ++ E ++ ⟨#[10]⟩ ++ NB ++ ⟨#[10]⟩ ++ ⟨#[102, 97, 108, 115, 101]⟩ ++ ⟨#[32]⟩ ++ G2 ++ g ++ ⟨#[10]⟩ : ByteArray).size ≤ 10000 := by
          simp only [ByteArray.size_append]
          show 9 + E.size + 1 + NB.size + 1 + 5 + 1 + G2.size + g.size + 1 ≤ 10000
          omega
        have hz10 : ((⟨#[111, 107, 10, 111, 107, 10, 111, 107, 10]⟩ : ByteArray) ++ E ++ ⟨#[10]⟩ ++ NB ++ ⟨#[10]⟩ ++ ⟨#[102, 97, 108, 115, 101]⟩ ++ ⟨#[32]⟩ ++ G2 ++ g ++ ⟨#[10]⟩ ++ ⟨#[102, 97, 108, 115, 101]⟩ : ByteArray).size ≤ 10000 := by
          simp only [ByteArray.size_append]
          show 9 + E.size + 1 + NB.size + 1 + 5 + 1 + G2.size + g.size + 1 + 5 ≤ 10000
          omega
        have hz11 : ((⟨#[111, 107, 10, 111, 107, 10, 111, 107, 10]⟩ : ByteArray) ++ E ++ ⟨#[10]⟩ ++ NB ++ ⟨#[10]⟩ ++ ⟨#[102, 97, 108, 115, 101]⟩ ++ ⟨#[32]⟩ ++ G2 ++ g ++ ⟨#[10]⟩ ++ ⟨#[102, 97, 108, 115, 101]⟩ ++ ⟨#[32]⟩ : ByteArray).size ≤ 10000 := by
          simp only [ByteArray.size_append]
          show 9 + E.size + 1 + NB.size + 1 + 5 + 1 + G2.size + g.size + 1 + 5 + 1 ≤ 10000
          omega
        have hz12 : ((⟨#[111, 107, 10, 111, 107, 10, 111, 107, 10]⟩ : ByteArray) ++ E ++ ⟨#[10]⟩ ++ NB ++ ⟨#[10]⟩ ++ ⟨#[102, 97, 108, 115, 101]⟩ ++ ⟨#[32]⟩ ++ G2 ++ g ++ ⟨#[10]⟩ ++ ⟨#[102, 97, 108, 115, 101]⟩ ++ ⟨#[32]⟩ ++ G2 : ByteArray).size ≤ 10000 := by
          simp only [ByteArray.size_append]
          show 9 + E.size + 1 + NB.size + 1 + 5 + 1 + G2.size + g.size + 1 + 5 + 1 + G2.size ≤ 10000
          omega
        have hz13 : ((⟨#[111, 107, 10, 111, 107, 10, 111, 107, 10]⟩ : ByteArray) ++ E ++ ⟨#[10]⟩ ++ NB ++ ⟨#[10]⟩ ++ ⟨#[102, 97, 108, 115, 101]⟩ ++ ⟨#[32]⟩ ++ G2 ++ g ++ ⟨#[10]⟩ ++ ⟨#[102, 97, 108, 115, 101]⟩ ++ ⟨#[32]⟩ ++ G2 ++ (h ++ ⟨#[10]⟩) : ByteArray).size ≤ 10000 := by
          simp only [ByteArray.size_append]
          show 9 + E.size + 1 + NB.size + 1 + 5 + 1 + G2.size + g.size + 1 + 5 + 1 + G2.size + (h.size + 1) ≤ 10000
          omega
        have HTB : Hid (∀ W', Below w10.heap.size w10 W' → Tab W') := fun W' hb => HT.out.below (HB10.out.trans (hb.mono HB10.out.size)) (Nat.le_refl _)
        refine wp_region_U (by kernel_rfl) ?_
        refine wpU_seg 44 36 0 8 rfl (by decide) (by kernel_rfl) (fun c a d v w h => by cases d <;> exact h) (by kernel_rfl) ?_
        intro w7 hw7 K hK
        simp only [List.take_succ_cons, List.take_zero, List.drop_zero]
        have JS := Lib.hid (fun s' : Since w7 => HSH.out s'.w)
        have JR := Lib.hid (fun s' : Since w7 => HRK.out s'.w)
        have JD := Lib.hid (fun s' : Since w7 => HWD.out s'.w)
        repeat (go_big_quiet_step (first | (with_reducible exact Since.call (JS.out _)) | (with_reducible exact Since.call (JR.out _)) | (with_reducible exact Since.call (JD.out _))))
        refine wpQuiet_nil ?_
        refine hK _ ?_
        clear hK K hw7 JS JR JD
        refine wpU_seg 36 35 12 1 rfl (by decide) (by kernel_rfl) (fun c a d v w h => by cases d <;> exact h) (by kernel_rfl) ?_
        intro w7 hw7 K hK
        simp only [List.take_succ_cons, List.take_zero, List.drop_succ_cons, List.drop_zero]
        repeat (go_big_quiet_step (fail))
        refine wpQuiet_nil ?_
        refine hK _ ?_
        clear hK K hw7 
        refine wpU_seg 35 34 14 1 rfl (by decide) (by kernel_rfl) (fun c a d v w h => by cases d <;> exact h) (by kernel_rfl) ?_
        intro w7 hw7 K hK
        simp only [List.take_succ_cons, List.take_zero, List.drop_succ_cons, List.drop_zero]
        repeat (go_big_quiet_step (fail))
        refine wpQuiet_nil ?_
        refine hK _ ?_
        clear hK K hw7 
        refine wpU_seg 34 33 21 1 rfl (by decide) (by kernel_rfl) (fun c a d v w h => by cases d <;> exact h) (by kernel_rfl) ?_
        intro w7 hw7 K hK
        simp only [List.take_succ_cons, List.take_zero, List.drop_succ_cons, List.drop_zero]
        repeat (go_big_quiet_step (fail))
        refine wpQuiet_nil ?_
        refine hK _ ?_
        clear hK K hw7 
        refine wpU_seg 33 32 24 1 rfl (by decide) (by kernel_rfl) (fun c a d v w h => by cases d <;> exact h) (by kernel_rfl) ?_
        intro w7 hw7 K hK
        simp only [List.take_succ_cons, List.take_zero, List.drop_succ_cons, List.drop_zero]
        repeat (go_big_quiet_step (fail))
        refine wpQuiet_nil ?_
        refine hK _ ?_
        clear hK K hw7 
        refine wpU_seg 32 31 27 1 rfl (by decide) (by kernel_rfl) (fun c a d v w h => by cases d <;> exact h) (by kernel_rfl) ?_
        intro w7 hw7 K hK
        simp only [List.take_succ_cons, List.take_zero, List.drop_succ_cons, List.drop_zero]
        repeat (go_big_quiet_step (fail))
        refine wpQuiet_nil ?_
        refine hK _ ?_
        clear hK K hw7 
        refine wpU_seg 31 30 29 1 rfl (by decide) (by kernel_rfl) (fun c a d v w h => by cases d <;> exact h) (by kernel_rfl) ?_
        intro w7 hw7 K hK
        simp only [List.take_succ_cons, List.take_zero, List.drop_succ_cons, List.drop_zero]
        repeat (go_big_quiet_step (fail))
        refine wpQuiet_nil ?_
        refine hK _ ?_
        clear hK K hw7 
        refine wpU_seg 30 29 36 1 rfl (by decide) (by kernel_rfl) (fun c a d v w h => by cases d <;> exact h) (by kernel_rfl) ?_
        intro w7 hw7 K hK
        simp only [List.take_succ_cons, List.take_zero, List.drop_succ_cons, List.drop_zero]
        repeat (go_big_quiet_step (fail))
        refine wpQuiet_nil ?_
        refine hK _ ?_
        clear hK K hw7 
        refine wpU_seg 29 27 39 2 rfl (by decide) (by kernel_rfl) (fun c a d v w h => by cases d <;> exact h) (by kernel_rfl) ?_
        intro w7 hw7 K hK
        simp only [List.take_succ_cons, List.take_zero, List.drop_succ_cons, List.drop_zero]
        repeat (go_big_quiet_step (fail))
        refine wpQuiet_nil ?_
        refine hK _ ?_
        clear hK K hw7 
        refine wpU_at 27 26 8 rfl (by kernel_rfl) ?_
        intro w8 hw8
        simp only [List.drop_succ_cons, List.drop_zero]
        refine ⟨by kernel_rfl, ?_⟩
        have HNA := Lib.hid (fun W' hb => nums2_at (W := w8) (T := 3) rk wd (W' := W') hb)
        have HB8 := Lib.hid hw8.below
        refine wp_value (v := .slice (some ⟨w8.heap.size, 0, none⟩) 2 2) (w2 := w8.alloc (.cells #[.int .i64 (rk : Int), .int .i64 (wd : Int)] 3)) (by kernel_rfl) ?_
        refine ⟨RS.of ((Below.refl _ _).alloc (Nat.le_refl _) _), ?_⟩
        clear hw8
        simp only [Act.put, List.setIfInBounds_toArray, List.set_cons_zero, List.set_cons_succ]
        have HS8 : Hid (Below w10.heap.size w10 (w8.alloc (.cells #[.int .i64 (rk : Int), .int .i64 (wd : Int)] 3))) := HB8.out.alloc HB8.out.size _
        have hsz8 : (w8.alloc (.cells #[.int .i64 (rk : Int), .int .i64 (wd : Int)] 3)).heap.size = w8.heap.size + 1 := by simp
        have HSZ := Lib.hid hsz8
        clear hsz8 HB8
        generalize w8.alloc (.cells #[.int .i64 (rk : Int), .int .i64 (wd : Int)] 3) = w9 at *
        refine wpU_seg 26 23 9 3 rfl (by decide) (by kernel_rfl) (fun c a d v w h => by cases d <;> exact h) (by kernel_rfl) ?_
        intro w7 hw7 K hK
        simp only [List.take_succ_cons, List.take_zero, List.drop_succ_cons, List.drop_zero]
        have JN := Lib.hid (fun s' : Since w7 => HNU.out _ s'.w (HNA.out s'.w ((hw7.below.trans (s'.below.mono hw7.below.size)).mono (by rw [HSZ.out]; exact Nat.le_refl _))) (HTB.out s'.w (HS8.out.trans ((hw7.below.trans (s'.below.mono hw7.below.size)).mono HS8.out.size))))
        repeat (go_big_quiet_step (first | (with_reducible exact Since.call (JN.out _))))
        refine wpQuiet_nil ?_
        refine hK _ ?_
        clear hK K hw7 JN
        refine wpU_seg 23 22 13 1 rfl (by decide) (by kernel_rfl) (fun c a d v w h => by cases d <;> exact h) (by kernel_rfl) ?_
        intro w7 hw7 K hK
        simp only [List.take_succ_cons, List.take_zero, List.drop_succ_cons, List.drop_zero]
        have JW := Lib.hid (fun s' : Since w7 => HGW.out s'.w)
        repeat (go_big_quiet_step (first | (with_reducible exact Since.call (JW.out _))))
        refine wpQuiet_nil ?_
        refine hK _ ?_
        clear hK K hw7 JW
        refine wpU_seg 22 16 15 6 rfl (by decide) (by kernel_rfl) (fun c a d v w h => by cases d <;> exact h) (by kernel_rfl) ?_
        intro w7 hw7 K hK
        simp only [List.take_succ_cons, List.take_zero, List.drop_succ_cons, List.drop_zero]
        have JW := Lib.hid (fun s' : Since w7 => HGW.out s'.w)
        repeat (go_big_quiet_step (first | (with_reducible exact Since.call (JW.out _))))
        refine wpQuiet_nil ?_
        refine hK _ ?_
        clear hK K hw7 JW
        refine wpU_seg 16 14 22 2 rfl (by decide) (by kernel_rfl) (fun c a d v w h => by cases d <;> exact h) (by kernel_rfl) ?_
        intro w7 hw7 K hK
        simp only [List.take_succ_cons, List.take_zero, List.drop_succ_cons, List.drop_zero]
        have JV := Lib.hid (fun s' : Since w7 => HG2.out s'.w)
        repeat (go_big_quiet_step (first | (with_reducible exact Since.call (JV.out _))))
        refine wpQuiet_nil ?_
        refine hK _ ?_
        clear hK K hw7 JV
        refine wpU_seg 14 12 25 2 rfl (by decide) (by kernel_rfl) (fun c a d v w h => by cases d <;> exact h) (by kernel_rfl) ?_
        intro w7 hw7 K hK
        simp only [List.take_succ_cons, List.take_zero, List.drop_succ_cons, List.drop_zero]
        repeat (go_big_quiet_step (fail))
        refine wpQuiet_nil ?_
        refine hK _ ?_
        clear hK K hw7 
        refine wpU_seg 12 11 28 1 rfl (by decide) (by kernel_rfl) (fun c a d v w h => by cases d <;> exact h) (by kernel_rfl) ?_
        intro w7 hw7 K hK
        simp only [List.take_succ_cons, List.take_zero, List.drop_succ_cons, List.drop_zero]
        have JW := Lib.hid (fun s' : Since w7 => HGW.out s'.w)
        repeat (go_big_quiet_step (first | (with_reducible exact Since.call (JW.out _))))
        refine wpQuiet_nil ?_
        refine hK _ ?_
        clear hK K hw7 JW
        refine wpU_seg 11 5 30 6 rfl (by decide) (by kernel_rfl) (fun c a d v w h => by cases d <;> exact h) (by kernel_rfl) ?_
        intro w7 hw7 K hK
        simp only [List.take_succ_cons, List.take_zero, List.drop_succ_cons, List.drop_zero]
        have JW := Lib.hid (fun s' : Since w7 => HGW.out s'.w)
        repeat (go_big_quiet_step (first | (with_reducible exact Since.call (JW.out _))))
        refine wpQuiet_nil ?_
        refine hK _ ?_
        clear hK K hw7 JW
        refine wpU_seg 5 3 37 2 rfl (by decide) (by kernel_rfl) (fun c a d v w h => by cases d <;> exact h) (by kernel_rfl) ?_
        intro w7 hw7 K hK
        simp only [List.take_succ_cons, List.take_zero, List.drop_succ_cons, List.drop_zero]
        have JV := Lib.hid (fun s' : Since w7 => HG2.out s'.w)
        repeat (go_big_quiet_step (first | (with_reducible exact Since.call (JV.out _))))
        refine wpQuiet_nil ?_
        refine hK _ ?_
        clear hK K hw7 JV
        refine wpU_seg 3 0 41 3 rfl (by decide) (by kernel_rfl) (fun c a d v w h => by cases d <;> exact h) (by kernel_rfl) ?_
        intro w7 hw7 K hK
        simp only [List.take_succ_cons, List.take_zero, List.drop_succ_cons, List.drop_zero]
        have JL := Lib.hid (fun s' : Since w7 => HGL.out s'.w)
        repeat (go_big_quiet_step (first | (with_reducible exact Since.call (JL.out _))))
        refine wpQuiet_nil ?_
        refine hK _ ?_
        clear hK K hw7 JL
        refine ⟨by kernel_rfl, fun w10 hw10 => ?_⟩
        have hb10 := HS8.out.trans (hw10.below.mono HS8.out.size)
        have HB10 := Lib.hid (HB10.out.trans (hb10.mono HB10.out.size))
        have HXb10 := Lib.hid (HXb10.out.below hb10 HXb10.out.cells.2.2.2.2.2.2)
        clear hw10 hb10 HS8 HNA HSZ
        obtain ⟨cb0, cb1, cb2, fb0, fb1, fb2, bb⟩ := HXb10.out.cells
        go_wp2_with fail
        refine (HJ2.out _).mono ?_; rintro e w11 ⟨rfl, hb⟩
        have HB11 := Lib.hid (HB10.out.trans (hb.mono HB10.out.size))
        clear hb cb0 cb1 cb2 fb0 fb1 fb2 bb
        go_wp2_with fail
        refine (HRS2.out _ (HT.out.below HB11.out (Nat.le_refl _))).mono ?_; rintro e w12 ⟨rfl, hb⟩
        have HB12 := Lib.hid (HB11.out.trans (hb.mono HB11.out.size))
        clear hb
        go_wp2_with fail
        go_ret
        exact ⟨ret_bool (by simp), HB12.out⟩
      · have hsl : ∀ wx, (Instr.slice 9 (.string ⟨#[116, 114, 117, 101, 10]⟩) none (some (.int .i64 4)) none).run Tryz.prog wx = .ok (.string ⟨#[116, 114, 117, 101]⟩) wx := fun wx => by kernel_rfl
        have HGW : Hid (∀ w, Calls Tryz.prog 15 #[.bool true] w fun e w' => e = .returned (.string ⟨#[116, 114, 117, 101, 10]⟩) ∧ Below w.heap.size w w') := HG1.out
        obtain ⟨G2, hG2⟩ : ∃ G, gsW55 b2 = G := ⟨_, rfl⟩
        rw [hG2] at HG2 g2
        have HRS2 : Hid (∀ w, Tab w → Calls Tryz.prog 17 #[.string ((⟨#[108, 101, 102, 116, 32]⟩ : ByteArray) ++ F ++ ⟨#[10, 114, 105, 103, 104, 116, 32]⟩ ++ F2 ++ ⟨#[10, 102, 111, 114, 109, 117, 108, 97, 32]⟩ ++ f ++ ⟨#[10, 115, 104, 111, 119, 10, 114, 97, 110, 107, 10, 104, 111, 108, 100, 115, 10, 112, 117, 115, 104, 10, 104, 111, 108, 100, 115, 10, 114, 101, 118, 101, 114, 115, 101, 10]⟩)] w fun e w' => e = .returned (.string ((⟨#[111, 107, 10, 111, 107, 10, 111, 107, 10]⟩ : ByteArray) ++ E ++ ⟨#[10]⟩ ++ NB ++ ⟨#[10]⟩ ++ ⟨#[116, 114, 117, 101]⟩ ++ ⟨#[32]⟩ ++ G2 ++ g ++ ⟨#[10]⟩ ++ ⟨#[116, 114, 117, 101]⟩ ++ ⟨#[32]⟩ ++ G2 ++ (h ++ ⟨#[10]⟩))) ∧ Below w.heap.size w w') := fun w ht => by
          have h := HRS.out w ht
          rw [← formOut] at h
          rw [← hG2]
          exact h
        clear HRS HG1 hG2
        have hlen : (⟨#[116, 114, 117, 101, 10]⟩ : ByteArray).size = 5 := rfl
        have hw5 : IntKind.i64.wrap 4 = 4 := by decide
        have hz1 : ((⟨#[111, 107, 10, 111, 107, 10, 111, 107, 10]⟩ : ByteArray) ++ E : ByteArray).size ≤ 10000 := by
          simp only [ByteArray.size_append]
          show 9 + E.size ≤ 10000
          omega
        have hz2 : ((⟨#[111, 107, 10, 111, 107, 10, 111, 107, 10]⟩ : ByteArray) ++ E ++ ⟨#[10]⟩ : ByteArray).size ≤ 10000 := by
          simp only [ByteArray.size_append]
          show 9 + E.size + 1 ≤ 10000
          omega
        have hz3 : ((⟨#[111, 107, 10, 111, 107, 10, 111, 107, 10]⟩ : ByteArray) ++ E ++ ⟨#[10]⟩ ++ NB : ByteArray).size ≤ 10000 := by
          simp only [ByteArray.size_append]
          show 9 + E.size + 1 + NB.size ≤ 10000
          omega
        have hz4 : ((⟨#[111, 107, 10, 111, 107, 10, 111, 107, 10]⟩ : ByteArray) ++ E ++ ⟨#[10]⟩ ++ NB ++ ⟨#[10]⟩ : ByteArray).size ≤ 10000 := by
          simp only [ByteArray.size_append]
          show 9 + E.size + 1 + NB.size + 1 ≤ 10000
          omega
        have hz5 : ((⟨#[111, 107, 10, 111, 107, 10, 111, 107, 10]⟩ : ByteArray) ++ E ++ ⟨#[10]⟩ ++ NB ++ ⟨#[10]⟩ ++ ⟨#[116, 114, 117, 101]⟩ : ByteArray).size ≤ 10000 := by
          simp only [ByteArray.size_append]
          show 9 + E.size + 1 + NB.size + 1 + 4 ≤ 10000
          omega
        have hz6 : ((⟨#[111, 107, 10, 111, 107, 10, 111, 107, 10]⟩ : ByteArray) ++ E ++ ⟨#[10]⟩ ++ NB ++ ⟨#[10]⟩ ++ ⟨#[116, 114, 117, 101]⟩ ++ ⟨#[32]⟩ : ByteArray).size ≤ 10000 := by
          simp only [ByteArray.size_append]
          show 9 + E.size + 1 + NB.size + 1 + 4 + 1 ≤ 10000
          omega
        have hz7 : ((⟨#[111, 107, 10, 111, 107, 10, 111, 107, 10]⟩ : ByteArray) ++ E ++ ⟨#[10]⟩ ++ NB ++ ⟨#[10]⟩ ++ ⟨#[116, 114, 117, 101]⟩ ++ ⟨#[32]⟩ ++ G2 : ByteArray).size ≤ 10000 := by
          simp only [ByteArray.size_append]
          show 9 + E.size + 1 + NB.size + 1 + 4 + 1 + G2.size ≤ 10000
          omega
        have hz8 : ((⟨#[111, 107, 10, 111, 107, 10, 111, 107, 10]⟩ : ByteArray) ++ E ++ ⟨#[10]⟩ ++ NB ++ ⟨#[10]⟩ ++ ⟨#[116, 114, 117, 101]⟩ ++ ⟨#[32]⟩ ++ G2 ++ g : ByteArray).size ≤ 10000 := by
          simp only [ByteArray.size_append]
          show 9 + E.size + 1 + NB.size + 1 + 4 + 1 + G2.size + g.size ≤ 10000
          omega
        have hz9 : ((⟨#[111, 107, 10, 111, 107, 10, 111, 107, 10]⟩ : ByteArray) ++ E ++ ⟨#[10]⟩ ++ NB ++ ⟨#[10]⟩ ++ ⟨#[116, 114, 117, 101]⟩ ++ ⟨#[32]⟩ ++ G2 ++ g ++ ⟨#[10]⟩ : ByteArray).size ≤ 10000 := by
          simp only [ByteArray.size_append]
          show 9 + E.size + 1 + NB.size + 1 + 4 + 1 + G2.size + g.size + 1 ≤ 10000
          omega
        have hz10 : ((⟨#[111, 107, 10, 111, 107, 10, 111, 107, 10]⟩ : ByteArray) ++ E ++ ⟨#[10]⟩ ++ NB ++ ⟨#[10]⟩ ++ ⟨#[116, 114, 117, 101]⟩ ++ ⟨#[32]⟩ ++ G2 ++ g ++ ⟨#[10]⟩ ++ ⟨#[116, 114, 117, 101]⟩ : ByteArray).size ≤ 10000 := by
          simp only [ByteArray.size_append]
          show 9 + E.size + 1 + NB.size + 1 + 4 + 1 + G2.size + g.size + 1 + 4 ≤ 10000
          omega
        have hz11 : ((⟨#[111, 107, 10, 111, 107, 10, 111, 107, 10]⟩ : ByteArray) ++ E ++ ⟨#[10]⟩ ++ NB ++ ⟨#[10]⟩ ++ ⟨#[116, 114, 117, 101]⟩ ++ ⟨#[32]⟩ ++ G2 ++ g ++ ⟨#[10]⟩ ++ ⟨#[116, 114, 117, 101]⟩ ++ ⟨#[32]⟩ : ByteArray).size ≤ 10000 := by
          simp only [ByteArray.size_append]
          show 9 + E.size + 1 + NB.size + 1 + 4 + 1 + G2.size + g.size + 1 + 4 + 1 ≤ 10000
          omega
        have hz12 : ((⟨#[111, 107, 10, 111, 107, 10, 111, 107, 10]⟩ : ByteArray) ++ E ++ ⟨#[10]⟩ ++ NB ++ ⟨#[10]⟩ ++ ⟨#[116, 114, 117, 101]⟩ ++ ⟨#[32]⟩ ++ G2 ++ g ++ ⟨#[10]⟩ ++ ⟨#[116, 114, 117, 101]⟩ ++ ⟨#[32]⟩ ++ G2 : ByteArray).size ≤ 10000 := by
          simp only [ByteArray.size_append]
          show 9 + E.size + 1 + NB.size + 1 + 4 + 1 + G2.size + g.size + 1 + 4 + 1 + G2.size ≤ 10000
          omega
        have hz13 : ((⟨#[111, 107, 10, 111, 107, 10, 111, 107, 10]⟩ : ByteArray) ++ E ++ ⟨#[10]⟩ ++ NB ++ ⟨#[10]⟩ ++ ⟨#[116, 114, 117, 101]⟩ ++ ⟨#[32]⟩ ++ G2 ++ g ++ ⟨#[10]⟩ ++ ⟨#[116, 114, 117, 101]⟩ ++ ⟨#[32]⟩ ++ G2 ++ (h ++ ⟨#[10]⟩) : ByteArray).size ≤ 10000 := by
          simp only [ByteArray.size_append]
          show 9 + E.size + 1 + NB.size + 1 + 4 + 1 + G2.size + g.size + 1 + 4 + 1 + G2.size + (h.size + 1) ≤ 10000
          omega
        have HTB : Hid (∀ W', Below w10.heap.size w10 W' → Tab W') := fun W' hb => HT.out.below (HB10.out.trans (hb.mono HB10.out.size)) (Nat.le_refl _)
        refine wp_region_U (by kernel_rfl) ?_
        refine wpU_seg 44 36 0 8 rfl (by decide) (by kernel_rfl) (fun c a d v w h => by cases d <;> exact h) (by kernel_rfl) ?_
        intro w7 hw7 K hK
        simp only [List.take_succ_cons, List.take_zero, List.drop_zero]
        have JS := Lib.hid (fun s' : Since w7 => HSH.out s'.w)
        have JR := Lib.hid (fun s' : Since w7 => HRK.out s'.w)
        have JD := Lib.hid (fun s' : Since w7 => HWD.out s'.w)
        repeat (go_big_quiet_step (first | (with_reducible exact Since.call (JS.out _)) | (with_reducible exact Since.call (JR.out _)) | (with_reducible exact Since.call (JD.out _))))
        refine wpQuiet_nil ?_
        refine hK _ ?_
        clear hK K hw7 JS JR JD
        refine wpU_seg 36 35 12 1 rfl (by decide) (by kernel_rfl) (fun c a d v w h => by cases d <;> exact h) (by kernel_rfl) ?_
        intro w7 hw7 K hK
        simp only [List.take_succ_cons, List.take_zero, List.drop_succ_cons, List.drop_zero]
        repeat (go_big_quiet_step (fail))
        refine wpQuiet_nil ?_
        refine hK _ ?_
        clear hK K hw7 
        refine wpU_seg 35 34 14 1 rfl (by decide) (by kernel_rfl) (fun c a d v w h => by cases d <;> exact h) (by kernel_rfl) ?_
        intro w7 hw7 K hK
        simp only [List.take_succ_cons, List.take_zero, List.drop_succ_cons, List.drop_zero]
        repeat (go_big_quiet_step (fail))
        refine wpQuiet_nil ?_
        refine hK _ ?_
        clear hK K hw7 
        refine wpU_seg 34 33 21 1 rfl (by decide) (by kernel_rfl) (fun c a d v w h => by cases d <;> exact h) (by kernel_rfl) ?_
        intro w7 hw7 K hK
        simp only [List.take_succ_cons, List.take_zero, List.drop_succ_cons, List.drop_zero]
        repeat (go_big_quiet_step (fail))
        refine wpQuiet_nil ?_
        refine hK _ ?_
        clear hK K hw7 
        refine wpU_seg 33 32 24 1 rfl (by decide) (by kernel_rfl) (fun c a d v w h => by cases d <;> exact h) (by kernel_rfl) ?_
        intro w7 hw7 K hK
        simp only [List.take_succ_cons, List.take_zero, List.drop_succ_cons, List.drop_zero]
        repeat (go_big_quiet_step (fail))
        refine wpQuiet_nil ?_
        refine hK _ ?_
        clear hK K hw7 
        refine wpU_seg 32 31 27 1 rfl (by decide) (by kernel_rfl) (fun c a d v w h => by cases d <;> exact h) (by kernel_rfl) ?_
        intro w7 hw7 K hK
        simp only [List.take_succ_cons, List.take_zero, List.drop_succ_cons, List.drop_zero]
        repeat (go_big_quiet_step (fail))
        refine wpQuiet_nil ?_
        refine hK _ ?_
        clear hK K hw7 
        refine wpU_seg 31 30 29 1 rfl (by decide) (by kernel_rfl) (fun c a d v w h => by cases d <;> exact h) (by kernel_rfl) ?_
        intro w7 hw7 K hK
        simp only [List.take_succ_cons, List.take_zero, List.drop_succ_cons, List.drop_zero]
        repeat (go_big_quiet_step (fail))
        refine wpQuiet_nil ?_
        refine hK _ ?_
        clear hK K hw7 
        refine wpU_seg 30 29 36 1 rfl (by decide) (by kernel_rfl) (fun c a d v w h => by cases d <;> exact h) (by kernel_rfl) ?_
        intro w7 hw7 K hK
        simp only [List.take_succ_cons, List.take_zero, List.drop_succ_cons, List.drop_zero]
        repeat (go_big_quiet_step (fail))
        refine wpQuiet_nil ?_
        refine hK _ ?_
        clear hK K hw7 
        refine wpU_seg 29 27 39 2 rfl (by decide) (by kernel_rfl) (fun c a d v w h => by cases d <;> exact h) (by kernel_rfl) ?_
        intro w7 hw7 K hK
        simp only [List.take_succ_cons, List.take_zero, List.drop_succ_cons, List.drop_zero]
        repeat (go_big_quiet_step (fail))
        refine wpQuiet_nil ?_
        refine hK _ ?_
        clear hK K hw7 
        refine wpU_at 27 26 8 rfl (by kernel_rfl) ?_
        intro w8 hw8
        simp only [List.drop_succ_cons, List.drop_zero]
        refine ⟨by kernel_rfl, ?_⟩
        have HNA := Lib.hid (fun W' hb => nums2_at (W := w8) (T := 3) rk wd (W' := W') hb)
        have HB8 := Lib.hid hw8.below
        refine wp_value (v := .slice (some ⟨w8.heap.size, 0, none⟩) 2 2) (w2 := w8.alloc (.cells #[.int .i64 (rk : Int), .int .i64 (wd : Int)] 3)) (by kernel_rfl) ?_
        refine ⟨RS.of ((Below.refl _ _).alloc (Nat.le_refl _) _), ?_⟩
        clear hw8
        simp only [Act.put, List.setIfInBounds_toArray, List.set_cons_zero, List.set_cons_succ]
        have HS8 : Hid (Below w10.heap.size w10 (w8.alloc (.cells #[.int .i64 (rk : Int), .int .i64 (wd : Int)] 3))) := HB8.out.alloc HB8.out.size _
        have hsz8 : (w8.alloc (.cells #[.int .i64 (rk : Int), .int .i64 (wd : Int)] 3)).heap.size = w8.heap.size + 1 := by simp
        have HSZ := Lib.hid hsz8
        clear hsz8 HB8
        generalize w8.alloc (.cells #[.int .i64 (rk : Int), .int .i64 (wd : Int)] 3) = w9 at *
        refine wpU_seg 26 23 9 3 rfl (by decide) (by kernel_rfl) (fun c a d v w h => by cases d <;> exact h) (by kernel_rfl) ?_
        intro w7 hw7 K hK
        simp only [List.take_succ_cons, List.take_zero, List.drop_succ_cons, List.drop_zero]
        have JN := Lib.hid (fun s' : Since w7 => HNU.out _ s'.w (HNA.out s'.w ((hw7.below.trans (s'.below.mono hw7.below.size)).mono (by rw [HSZ.out]; exact Nat.le_refl _))) (HTB.out s'.w (HS8.out.trans ((hw7.below.trans (s'.below.mono hw7.below.size)).mono HS8.out.size))))
        repeat (go_big_quiet_step (first | (with_reducible exact Since.call (JN.out _))))
        refine wpQuiet_nil ?_
        refine hK _ ?_
        clear hK K hw7 JN
        refine wpU_seg 23 22 13 1 rfl (by decide) (by kernel_rfl) (fun c a d v w h => by cases d <;> exact h) (by kernel_rfl) ?_
        intro w7 hw7 K hK
        simp only [List.take_succ_cons, List.take_zero, List.drop_succ_cons, List.drop_zero]
        have JW := Lib.hid (fun s' : Since w7 => HGW.out s'.w)
        repeat (go_big_quiet_step (first | (with_reducible exact Since.call (JW.out _))))
        refine wpQuiet_nil ?_
        refine hK _ ?_
        clear hK K hw7 JW
        refine wpU_seg 22 16 15 6 rfl (by decide) (by kernel_rfl) (fun c a d v w h => by cases d <;> exact h) (by kernel_rfl) ?_
        intro w7 hw7 K hK
        simp only [List.take_succ_cons, List.take_zero, List.drop_succ_cons, List.drop_zero]
        have JW := Lib.hid (fun s' : Since w7 => HGW.out s'.w)
        repeat (go_big_quiet_step (first | (with_reducible exact Since.call (JW.out _))))
        refine wpQuiet_nil ?_
        refine hK _ ?_
        clear hK K hw7 JW
        refine wpU_seg 16 14 22 2 rfl (by decide) (by kernel_rfl) (fun c a d v w h => by cases d <;> exact h) (by kernel_rfl) ?_
        intro w7 hw7 K hK
        simp only [List.take_succ_cons, List.take_zero, List.drop_succ_cons, List.drop_zero]
        have JV := Lib.hid (fun s' : Since w7 => HG2.out s'.w)
        repeat (go_big_quiet_step (first | (with_reducible exact Since.call (JV.out _))))
        refine wpQuiet_nil ?_
        refine hK _ ?_
        clear hK K hw7 JV
        refine wpU_seg 14 12 25 2 rfl (by decide) (by kernel_rfl) (fun c a d v w h => by cases d <;> exact h) (by kernel_rfl) ?_
        intro w7 hw7 K hK
        simp only [List.take_succ_cons, List.take_zero, List.drop_succ_cons, List.drop_zero]
        repeat (go_big_quiet_step (fail))
        refine wpQuiet_nil ?_
        refine hK _ ?_
        clear hK K hw7 
        refine wpU_seg 12 11 28 1 rfl (by decide) (by kernel_rfl) (fun c a d v w h => by cases d <;> exact h) (by kernel_rfl) ?_
        intro w7 hw7 K hK
        simp only [List.take_succ_cons, List.take_zero, List.drop_succ_cons, List.drop_zero]
        have JW := Lib.hid (fun s' : Since w7 => HGW.out s'.w)
        repeat (go_big_quiet_step (first | (with_reducible exact Since.call (JW.out _))))
        refine wpQuiet_nil ?_
        refine hK _ ?_
        clear hK K hw7 JW
        refine wpU_seg 11 5 30 6 rfl (by decide) (by kernel_rfl) (fun c a d v w h => by cases d <;> exact h) (by kernel_rfl) ?_
        intro w7 hw7 K hK
        simp only [List.take_succ_cons, List.take_zero, List.drop_succ_cons, List.drop_zero]
        have JW := Lib.hid (fun s' : Since w7 => HGW.out s'.w)
        repeat (go_big_quiet_step (first | (with_reducible exact Since.call (JW.out _))))
        refine wpQuiet_nil ?_
        refine hK _ ?_
        clear hK K hw7 JW
        refine wpU_seg 5 3 37 2 rfl (by decide) (by kernel_rfl) (fun c a d v w h => by cases d <;> exact h) (by kernel_rfl) ?_
        intro w7 hw7 K hK
        simp only [List.take_succ_cons, List.take_zero, List.drop_succ_cons, List.drop_zero]
        have JV := Lib.hid (fun s' : Since w7 => HG2.out s'.w)
        repeat (go_big_quiet_step (first | (with_reducible exact Since.call (JV.out _))))
        refine wpQuiet_nil ?_
        refine hK _ ?_
        clear hK K hw7 JV
        refine wpU_seg 3 0 41 3 rfl (by decide) (by kernel_rfl) (fun c a d v w h => by cases d <;> exact h) (by kernel_rfl) ?_
        intro w7 hw7 K hK
        simp only [List.take_succ_cons, List.take_zero, List.drop_succ_cons, List.drop_zero]
        have JL := Lib.hid (fun s' : Since w7 => HGL.out s'.w)
        repeat (go_big_quiet_step (first | (with_reducible exact Since.call (JL.out _))))
        refine wpQuiet_nil ?_
        refine hK _ ?_
        clear hK K hw7 JL
        refine ⟨by kernel_rfl, fun w10 hw10 => ?_⟩
        have hb10 := HS8.out.trans (hw10.below.mono HS8.out.size)
        have HB10 := Lib.hid (HB10.out.trans (hb10.mono HB10.out.size))
        have HXb10 := Lib.hid (HXb10.out.below hb10 HXb10.out.cells.2.2.2.2.2.2)
        clear hw10 hb10 HS8 HNA HSZ
        obtain ⟨cb0, cb1, cb2, fb0, fb1, fb2, bb⟩ := HXb10.out.cells
        go_wp2_with fail
        refine (HJ2.out _).mono ?_; rintro e w11 ⟨rfl, hb⟩
        have HB11 := Lib.hid (HB10.out.trans (hb.mono HB10.out.size))
        clear hb cb0 cb1 cb2 fb0 fb1 fb2 bb
        go_wp2_with fail
        refine (HRS2.out _ (HT.out.below HB11.out (Nat.le_refl _))).mono ?_; rintro e w12 ⟨rfl, hb⟩
        have HB12 := Lib.hid (HB11.out.trans (hb.mono HB11.out.size))
        clear hb
        go_wp2_with fail
        go_ret
        exact ⟨ret_bool (by simp), HB12.out⟩
  · go_enter Tryz.func3, Tryz.ntmps3
    go_wp2_with fail
    go_ret
    exact ⟨rfl, Below.refl _ _⟩
end Go.Proofs.YtihomcedaaiidaaGreatDoor
