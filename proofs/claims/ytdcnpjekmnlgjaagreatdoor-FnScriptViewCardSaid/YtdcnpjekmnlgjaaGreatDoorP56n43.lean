/- Contracts of the program's functions and what they compute: part 43. Conditions: those that each theorem states. -/
import Derived.Test.YtdcnpjekmnlgjaaGreatDoorP56n11
import Derived.Test.YtdcnpjekmnlgjaaGreatDoorP56n42
namespace Go.Proofs.YtdcnpjekmnlgjaaGreatDoor
open Go.RowKit
set_option linter.unusedVariables false
set_option maxRecDepth 100000
set_option maxHeartbeats 1000000 in
theorem l2Some_any (b K : Nat) (w : World) (h : RdB w b K) (hk : K < 1000000000) :
    Calls Tryz.prog 43 #[.pointer (some ⟨b, 0, none⟩)] w (TxtN b (K + 251) 63 w) := by
  have H := Lib.hid h; clear h
  go_enter Tryz.func43, Tryz.ntmps43
  go_wp2_with fail
  refine (pickB _ b K _ H.out (by omega) (by omega) (by omega)).mono ?_; rintro e w1 ⟨d, rfl, d0, d1, hr, hg⟩
  have HR1 := Lib.hid hr; have HG1 := Lib.hid hg; clear hr hg H
  go_wp2_with fail
  refine (of_ne w1 b _ 4 [⟨#[97, 98]⟩, ⟨#[97, 98, 99]⟩, ⟨#[97]⟩, ⟨#[97, 98, 99, 100]⟩] _ HR1.out (by omega) (by decide) (by decide) (by intro x hx; simp at hx; rcases hx with rfl | rfl | rfl | rfl <;> decide)).mono ?_; rintro e w2 ⟨vs, v1, v4, rfl, hr, hg⟩
  have HR2 := Lib.hid hr; have HG2 := Lib.hid (HG1.out.trans hg); clear hr hg HR1 HG1
  go_wp2_with fail
  refine (pickB _ b _ _ HR2.out (by omega) (by omega) (by omega)).mono ?_; rintro e w3 ⟨c, rfl, c0, c1, hr, hg⟩
  have HR3 := Lib.hid hr; have HG3 := Lib.hid (HG2.out.trans hg); clear hr hg HR2 HG2
  obtain ⟨m, rfl⟩ := Int.eq_ofNat_of_zero_le d0
  have hm := nP4 (d := m + 1) (by omega)
  have hm1 : (1 + (m : Int)) = ((m + 1 : Nat) : Int) := by omega
  have HC : Hid (∀ cnt, Calls Tryz.prog 40 #[.pointer (some ⟨b, 0, none⟩), .int .i64 (1 + (m : Int)), .string vs, .bool cnt] w3 (TxtN b (K + 1 + 1 + 1 + nP (m + 1)) (tP (m + 1)) w3)) := by
    intro cnt
    rw [hm1]
    exact l2Draw_any b vs cnt v1 (by omega) (m + 1) (by omega) w3 _ HR3.out (by omega)
  clear hm1
  generalize nP (m + 1) = N at *
  generalize tP (m + 1) = M at *
  go_wp2_with fail
  refine (HC.out _).mono ?_; rintro e w4 ⟨f, f1, f2, rfl, hr, hg⟩
  have HQ : Hid (TxtN b (K + 251) 63 w (.returned (.string f)) w4) := ⟨f, f1, by omega, rfl, hr.mono (by omega), HG3.out.trans hg⟩
  clear hr hg
  go_wp2_with fail
  go_ret
  exact HQ.out
theorem l2Open_any (b K : Nat) (w : World) (h : RdB w b K) (hk : K < 1000000000) :
    Calls Tryz.prog 18 #[.pointer (some ⟨b, 0, none⟩)] w (TxtM b (K + 254) 64 w) := by
  have H := Lib.hid h; clear h
  go_enter Tryz.func18, Tryz.ntmps18
  go_wp2_with fail
  refine (l2Some_any b K _ H.out hk).mono ?_; rintro e w1 ⟨f, f1, f2, rfl, hr, hg⟩
  have HR1 := Lib.hid hr; have HG1 := Lib.hid hg; clear hr hg H
  go_wp2_with fail
  refine (l2Bad_any b 63 f f1 f2 (by omega) w1 _ HR1.out (by omega)).mono ?_; rintro e w2 ⟨g, g2, rfl, hr, hg⟩
  have HQ : Hid (TxtM b (K + 254) 64 w (.returned (.string g)) w2) := ⟨g, g2, rfl, hr.mono (by omega), HG1.out.trans hg⟩
  clear hr hg
  go_wp2_with fail
  go_ret
  exact HQ.out
set_option maxHeartbeats 4000000 in
theorem l11Draw_any (b K wd : Nat) (hwd : 1 ≤ wd ∧ wd ≤ 2) (w : World) (h : RdB w b K) (hk : K < 1000000000) :
    Calls Tryz.prog 16 #[.pointer (some ⟨b, 0, none⟩), .int .i64 (wd : Int)] w (TxtN b (K + 260) 69 w) := by
  have H := Lib.hid h; clear h
  go_enter Tryz.func16, Tryz.ntmps16
  go_wp2_with fail
  refine (pickB _ b K _ H.out (by omega) (by omega) (by omega)).mono ?_; rintro e w1 ⟨d, rfl, d0, d1, hr, hg⟩
  have HR1 := Lib.hid hr; have HG1 := Lib.hid hg; clear hr hg H
  go_wp2_with fail
  refine (pickB _ b _ _ HR1.out (by omega) (by omega) (by omega)).mono ?_; rintro e w3 ⟨c, rfl, c0, c1, hr, hg⟩
  have HR3 := Lib.hid hr; have HG3 := Lib.hid (HG1.out.trans hg); clear hr hg HR1 HG1
  obtain ⟨m, rfl⟩ := Int.eq_ofNat_of_zero_le d0
  have hm := nP4 (d := m + 1) (by omega)
  have hm1 : (1 + (m : Int)) = ((m + 1 : Nat) : Int) := by omega
  have HC : Hid (∀ cnt, Calls Tryz.prog 40 #[.pointer (some ⟨b, 0, none⟩), .int .i64 (1 + (m : Int)), .string ⟨#[97, 98, 99]⟩, .bool cnt] w3 (TxtN b (K + 1 + 1 + nP (m + 1)) (tP (m + 1)) w3)) := by
    intro cnt
    rw [hm1]
    exact l2Draw_any b ⟨#[97, 98, 99]⟩ cnt (by decide) (by decide) (m + 1) (by omega) w3 _ HR3.out (by omega)
  clear hm1
  generalize nP (m + 1) = N at *
  generalize tP (m + 1) = M at *
  go_wp2_with fail
  refine (HC.out _).mono ?_; rintro e w4 ⟨f, f1, f2, rfl, hr, hg⟩
  have HR4 := Lib.hid hr; have HG4 := Lib.hid (HG3.out.trans hg); clear hr hg HR3 HG3 HC
  have HFV := Lib.hid (fun w => FreeVars_any f (by omega) w)
  go_wp2_with fail
  refine (HFV.out _).mono ?_; rintro _ w2 ⟨⟨fr, h4, rfl⟩, hw2⟩; rw [hw2]; clear hw2 w2 HFV
  have HFI := Lib.hid (fun c w => l15FindP_any fr c w (by omega))
  go_wp2_with fail
  go_loopw [8, 6] (fun q v wr => ∃ i : Nat, 1 ≤ i ∧ i ≤ 3 ∧ q = .int .i64 (i : Int) ∧ ∃ t : ByteArray, 1 ≤ t.size ∧ t.size ≤ 63 + 2 * i ∧ v = .string t ∧ Hid (RdB wr b (K + 250 + i) ∧ w.grownBy wr (some b))) (fun q _ _ => 3 - (intOf q).toNat)
  case atStart => exact ⟨wd, by omega, by omega, rfl, f, f1, by omega, rfl, HR4.out.mono (by omega), HG4.out⟩
  case round =>
    obtain ⟨i, hi1, hi, rfl, t, t1, t2, rfl, HI⟩ := hrel
    clear HR4 HG4
    rcases (by omega : i = 1 ∨ i = 2 ∨ i = 3) with rfl | rfl | rfl
    · have HRD := Lib.hid (rdB_bel HI.out.1 (Below.refl wr.heap.size wr).drew)
      have HX : Hid (∀ (o : ByteArray) wz, o.size ≤ 1 → 1 ≤ o.size → RdB wz b (K + 250 + 1 + 1) → wr.drew.grownBy wz (some b) → ∃ j : Nat, 1 ≤ j ∧ j ≤ 3 ∧ Value.int IntKind.i64 2 = .int .i64 (j : Int) ∧ ∃ t' : ByteArray, 1 ≤ t'.size ∧ t'.size ≤ 63 + 2 * j ∧ Value.string (o ++ ⟨#[98]⟩ ++ t) = Value.string t' ∧ Hid (RdB wz b (K + 250 + j) ∧ w.grownBy wz (some b))) :=
        fun o wz h1 h0 h2 h3 => ⟨2, by omega, by omega, rfl, _, by rw [ByteArray.size_append]; have : (⟨#[98]⟩ : ByteArray).size = 1 := rfl; omega, by rw [ByteArray.size_append, ByteArray.size_append]; have : (⟨#[98]⟩ : ByteArray).size = 1 := rfl; omega, rfl, h2, HI.out.2.trans ((grown_drewF wr).trans h3)⟩
      have HF := Lib.hid (fun w => HFI.out 98 w)
      obtain ⟨P, hP⟩ : ∃ P, posB 98 fr.data.toList 0 = P := ⟨_, rfl⟩
      rw [hP] at HF
      clear hP HFI
      go_wp2_with fail
      refine (HF.out _).mono ?_; rintro _ w5 ⟨rfl, hw5⟩; rw [hw5]; clear hw5 w5
      by_cases hc : 0 ≤ P
      · go_wp2_with fail
        go_region_with (first | (go_at_call 39; refine (of_ne wr.drew b _ 1 [⟨#[83]⟩, ⟨#[65]⟩] _ HRD.out (by omega) (by decide) (by decide) (by intro x hx; simp at hx; rcases hx with rfl | rfl <;> decide)).mono ?_; rintro e wz ⟨o, o1, o2, rfl, hr, hg⟩; have HQ := Lib.hid (HX.out o wz o2 o1 hr hg); clear hr hg))
        all_goals
          go_wp2_with fail
          go_roundw
          case rel => exact HQ.out
          case measure => simp [intOf]
      · go_wp2_with fail
        go_roundw
        case rel => exact ⟨2, by omega, by omega, rfl, t, t1, by omega, rfl, HI.out.1.mono (by omega), HI.out.2⟩
        case measure => simp [intOf]
    · have HRD := Lib.hid (rdB_bel HI.out.1 (Below.refl wr.heap.size wr).drew)
      have HX : Hid (∀ (o : ByteArray) wz, o.size ≤ 1 → 1 ≤ o.size → RdB wz b (K + 250 + 2 + 1) → wr.drew.grownBy wz (some b) → ∃ j : Nat, 1 ≤ j ∧ j ≤ 3 ∧ Value.int IntKind.i64 3 = .int .i64 (j : Int) ∧ ∃ t' : ByteArray, 1 ≤ t'.size ∧ t'.size ≤ 63 + 2 * j ∧ Value.string (o ++ ⟨#[99]⟩ ++ t) = Value.string t' ∧ Hid (RdB wz b (K + 250 + j) ∧ w.grownBy wz (some b))) :=
        fun o wz h1 h0 h2 h3 => ⟨3, by omega, by omega, rfl, _, by rw [ByteArray.size_append]; have : (⟨#[99]⟩ : ByteArray).size = 1 := rfl; omega, by rw [ByteArray.size_append, ByteArray.size_append]; have : (⟨#[99]⟩ : ByteArray).size = 1 := rfl; omega, rfl, h2, HI.out.2.trans ((grown_drewF wr).trans h3)⟩
      have HF := Lib.hid (fun w => HFI.out 99 w)
      obtain ⟨P, hP⟩ : ∃ P, posB 99 fr.data.toList 0 = P := ⟨_, rfl⟩
      rw [hP] at HF
      clear hP HFI
      go_wp2_with fail
      refine (HF.out _).mono ?_; rintro _ w5 ⟨rfl, hw5⟩; rw [hw5]; clear hw5 w5
      by_cases hc : 0 ≤ P
      · go_wp2_with fail
        go_region_with (first | (go_at_call 39; refine (of_ne wr.drew b _ 1 [⟨#[83]⟩, ⟨#[65]⟩] _ HRD.out (by omega) (by decide) (by decide) (by intro x hx; simp at hx; rcases hx with rfl | rfl <;> decide)).mono ?_; rintro e wz ⟨o, o1, o2, rfl, hr, hg⟩; have HQ := Lib.hid (HX.out o wz o2 o1 hr hg); clear hr hg))
        all_goals
          go_wp2_with fail
          go_roundw
          case rel => exact HQ.out
          case measure => simp [intOf]
      · go_wp2_with fail
        go_roundw
        case rel => exact ⟨3, by omega, by omega, rfl, t, t1, by omega, rfl, HI.out.1.mono (by omega), HI.out.2⟩
        case measure => simp [intOf]
    · have HQ : Hid (TxtN b (K + 260) 69 w (.returned (.string t)) wr) := ⟨t, t1, by omega, rfl, HI.out.1.mono (by omega), HI.out.2⟩
      clear HI
      go_wp2_with fail
      go_ret
      exact HQ.out
/-- The reader, the result's box and the drawn structure's box. -/
structure Dv (w : World) (b K x : Nat) (n : Int) (S R : ByteArray) (wr : World) : Prop where
  rd : RdB wr b K
  res : SBlk wr w.heap.size 0 ⟨#[]⟩ ⟨#[]⟩
  a : SBlk wr x n S R
  ne : w.heap.size < b ∧ b < x
  old : Below w.heap.size w wr
section
variable {w : World} {b K K' x : Nat} {n : Int} {S R : ByteArray} {wr w' : World}
theorem Dv.pick (h : Dv w b K x n S R wr) (hr : RdB w' b K') (hg : wr.grownBy w' (some b)) : Dv w b K' x n S R w' := by
  have l1 := h.res.cells.2.2.2.2.2.2
  have l2 := h.a.cells.2.2.2.2.2.2
  obtain ⟨n1, n2⟩ := h.ne
  exact ⟨hr, (hg.block w.heap.size l1 (by intro e; injection e; omega)).trans h.res, (hg.block x l2 (by intro e; injection e; omega)).trans h.a, h.ne, below_of_grown h.old (by omega) hg⟩
theorem Dv.drew (h : Dv w b K x n S R wr) : Dv w b K x n S R wr.drew := ⟨rdB_drew h.rd, h.res.drew, h.a.drew, h.ne, h.old.drew⟩
end
/-- The beginning of a draw of a structure and formulas. -/
theorem Dv.first {w w1 w2 : World} {K : Nat} {m : Int} {T U : ByteArray} (hz : w.heap.size + 1 ≤ w1.heap.size) (hw1 : Below w.heap.size w w1) (hx : SBlk w1 w.heap.size 0 ⟨#[]⟩ ⟨#[]⟩) (b : Nat) (hb : w.heap.size < b) (hr : RdB w2 b K) (hg : w1.grownBy w2 (some b)) :
    Dv w b K w2.heap.size m T U (w2.alloc (.cells #[.int .i64 m, .string T, .string U] 24)) := by
  have hal : Below w2.heap.size w2 (w2.alloc (.cells #[.int .i64 m, .string T, .string U] 24)) := (Below.refl _ _).alloc (Nat.le_refl _) _
  have hlt := hx.cells.2.2.2.2.2.2
  have hx2 : SBlk w2 w.heap.size 0 ⟨#[]⟩ ⟨#[]⟩ := (hg.block w.heap.size hlt (by intro e; injection e; omega)).trans hx
  have hb2 := below_of_grown hw1 (by omega) hg
  exact ⟨rdB_bel hr hal, hx2.below hal hx2.cells.2.2.2.2.2.2, SBlk.new w2 m T U, ⟨hb, hr.block⟩, hb2.trans (hal.mono hb2.size)⟩
end Go.Proofs.YtdcnpjekmnlgjaaGreatDoor
namespace Go.Proofs.YtdcnpjekmnlgjaaGreatDoor
open Go.RowKit
set_option linter.unusedVariables false
set_option maxRecDepth 100000
theorem results_cell_tmp2 {fn : Func} {p u x : Tmp} {ty : TypeId} (h : fn.results = #[.cell p ty, .tmp u, .tmp x]) (tmps : Array Value) (P : Program) (w : World) :
    (results fn tmps).run P w =
      ((asAddr (tmps.getD p undef)).run P w).andThen fun a w₁ => ((loadVar ty a).run P w₁).andThen fun v w₂ => .ok (.tuple #[v, tmps.getD u undef, tmps.getD x undef]) w₂ := by
  simp only [results, h]
  simp [Sem.run_bind, Result.andThen]
/-- Three results: a structure in a variable, and two others. -/
theorem results_str3 {fn : Func} {p u x : Tmp} (h : fn.results = #[.cell p 24, .tmp u, .tmp x]) {tmps : Array Value} {w : World} {b : Nat} {n : Int} {S R : ByteArray} {v z : Value} (hp : tmps.getD p undef = .pointer (some ⟨b, 0, none⟩)) (hb : SBlk w b n S R) (hu : tmps.getD u undef = v) (hx : tmps.getD x undef = z) :
    (results fn tmps).run Tryz.prog w = .ok (.tuple #[strV n S R, v, z]) w := by
  rw [results_cell_tmp2 h, hp, hu, hx]
  have hl := run_loadVar_row (P := Tryz.prog) w b 24 24 #[.int .i64 n, .string S, .string R] (0, 0) _ hb Tryz.underlying24 rfl strInfo
  simp [asAddr, Result.andThen, hl, strV]
/-- A structure and two texts that are drawn. -/
def DrawSFF (w : World) (e : Ending) (w' : World) : Prop := ∃ (n : Int) (S R f g : ByteArray), -1 ≤ n ∧ n ≤ 9223372036854775807 ∧ S.size ≤ 10 ∧ R.size ≤ 100 ∧ f.size ≤ 70 ∧ g.size ≤ 70 ∧ e = .returned (.tuple #[strV n S R, .string f, .string g]) ∧ Below w.heap.size w w'
set_option maxHeartbeats 4000000 in
theorem DrawInterpret_any (w : World) (a : Option Addr) (len cap : Nat) (zs : List Int) (h : IsRow .u8 w a len cap zs) :
    Calls Tryz.prog 4 #[.slice a len cap] w (DrawSFF w) := by
  have HB0 : Hid (Below w.heap.size w (w.alloc (.cells #[.int .i64 0, .string ⟨#[]⟩, .string ⟨#[]⟩] 24))) := (Below.refl _ _).alloc (Nat.le_refl _) _
  have HB1 : Hid (SBlk (w.alloc (.cells #[.int .i64 0, .string ⟨#[]⟩, .string ⟨#[]⟩] 24)) w.heap.size 0 ⟨#[]⟩ ⟨#[]⟩) := SBlk.new w 0 ⟨#[]⟩ ⟨#[]⟩
  have H := Lib.hid (h.below HB0.out); clear h
  have hz : (w.alloc (.cells #[.int .i64 0, .string ⟨#[]⟩, .string ⟨#[]⟩] 24)).heap.size = w.heap.size + 1 := by simp
  have HZ := Lib.hid hz; clear hz
  obtain ⟨W, hW⟩ : ∃ W, w.alloc (.cells #[.int .i64 0, .string ⟨#[]⟩, .string ⟨#[]⟩] 24) = W := ⟨_, rfl⟩
  rw [hW] at HB0 HB1 H HZ
  have HW := Lib.hid hW; clear hW
  go_enter Tryz.func4, Tryz.ntmps4
  go_upto_region 1 with fail
  rw [HW.out]
  go_wp2_with fail
  refine (l15Open_any _ _ _ _ _ H.out).mono ?_; rintro e w1 ⟨rfl, hr, hb, hs⟩
  have HR1 := Lib.hid hr
  have HBL1 := Lib.hid (HB0.out.trans (hb.mono HB0.out.size))
  have HX1 : Hid (SBlk w1 w.heap.size 0 ⟨#[]⟩ ⟨#[]⟩) := HB1.out.below hb HB1.out.cells.2.2.2.2.2.2
  have hlt : w.heap.size < W.heap.size := by rw [HZ.out]; omega
  have HZ1 : Hid (w.heap.size + 1 ≤ w1.heap.size) := by have := hb.size; have := HZ.out; show _ ≤ _; omega
  clear hr hb hs
  generalize W.heap.size = B at *
  go_wp2_with fail
  refine (l1Open_any B _ w1 HR1.out (by omega)).mono ?_; rintro e w2 ⟨m, T, U, m0, m1, hT, hU, rfl, hr, hg⟩
  have HD := Lib.hid (Dv.first (m := m) (T := T) (U := U) HZ1.out HBL1.out HX1.out B hlt hr hg)
  clear hr hg
  unfold strV
  go_upto_region 3 with fail
  obtain ⟨W3, hW3⟩ : ∃ W3, w2.alloc (.cells #[.int .i64 m, .string T, .string U] 24) = W3 := ⟨_, rfl⟩
  rw [hW3] at HD ⊢
  generalize w2.heap.size = X at *
  clear hW3
  go_wp2_with fail
  refine (l11Draw_any B _ 1 (by omega) W3 HD.out.rd (by omega)).mono ?_; rintro e w4 ⟨f, f1, f2, rfl, hr, hg⟩
  have HD4 := Lib.hid (HD.out.pick hr hg); clear hr hg
  go_wp2_with fail
  refine (l2Bad_any B 69 f f1 f2 (by omega) w4 _ HD4.out.rd (by omega)).mono ?_; rintro e w5 ⟨g, gz, rfl, hr, hg⟩
  have HD5 := Lib.hid (HD4.out.pick hr hg); clear hr hg
  go_wp2_with fail
  refine (pickB _ B _ _ HD5.out.rd (by omega) (by omega) (by omega)).mono ?_; rintro e w6 ⟨d, rfl, d0, d1, hr, hg⟩
  have HD6 := Lib.hid (HD5.out.pick hr hg); clear hr hg HD5 HD4 HD
  obtain ⟨a0, a1, a2, k0, k1, k2, hac⟩ := HD6.out.a.cells
  obtain ⟨b0, b1, b2, g0, g1, g2, hbc⟩ := HD6.out.res.cells
  by_cases hd : d = 0
  · subst hd
    go_wp2_with fail
    go_region_with (first
      | (go_at_call 18; refine (l2Open_any B _ w6.drew HD6.out.drew.rd (by omega)).mono ?_; rintro e w7 ⟨u, uz, rfl, hr, hg⟩; have HD7 := Lib.hid (HD6.out.drew.pick hr hg); clear hr hg; obtain ⟨a0', a1', a2', k0', k1', k2', hac'⟩ := HD7.out.a.cells; obtain ⟨b0', b1', b2', g0', g1', g2', hbc'⟩ := HD7.out.res.cells))
    all_goals
      have HP : Hid (DrawSFF w (.returned (.tuple #[strV m T U, .string u, .string ⟨#[69, 97, 98]⟩])) (((w7.setCell ⟨w.heap.size, 0, none⟩ (.int .i64 m)).setCell ⟨w.heap.size, 1, none⟩ (.string T)).setCell ⟨w.heap.size, 2, none⟩ (.string U))) :=
        ⟨m, T, U, u, _, m0, m1, hT, hU, by omega, by decide, rfl, ((HD7.out.old.setCell (Nat.le_refl _) _).setCell (Nat.le_refl _) _).setCell (Nat.le_refl _) _⟩
      go_wp2_with fail
      refine bodyPost_ret (v := .tuple #[strV m T U, .string u, .string ⟨#[69, 97, 98]⟩]) ?_ rfl HP.out
      exact results_str3 rfl rfl HD7.out.res.set3 rfl rfl
  · have hdB : (d == 0) = false := by simpa using hd
    go_wp2_with fail
    go_region_with (first
      | (go_at_call 16; refine (l11Draw_any B _ 2 (by omega) w6.drew HD6.out.drew.rd (by omega)).mono ?_; rintro e w7 ⟨u, u1, u2, rfl, hr, hg⟩; have HD7 := Lib.hid (HD6.out.drew.pick hr hg); clear hr hg; obtain ⟨a0', a1', a2', k0', k1', k2', hac'⟩ := HD7.out.a.cells; obtain ⟨b0', b1', b2', g0', g1', g2', hbc'⟩ := HD7.out.res.cells)
      | (go_at_call 15; refine (l2Bad_any B 69 u u1 u2 (by omega) w7 _ HD7.out.rd (by omega)).mono ?_; rintro e w8 ⟨x, xz, rfl, hr, hg⟩; have HD8 := Lib.hid (HD7.out.pick hr hg); clear hr hg; obtain ⟨a0'', a1'', a2'', k0'', k1'', k2'', hac''⟩ := HD8.out.a.cells; obtain ⟨b0'', b1'', b2'', g0'', g1'', g2'', hbc''⟩ := HD8.out.res.cells))
    all_goals
      have HP : Hid (DrawSFF w (.returned (.tuple #[strV m T U, .string g, .string x])) (((w8.setCell ⟨w.heap.size, 0, none⟩ (.int .i64 m)).setCell ⟨w.heap.size, 1, none⟩ (.string T)).setCell ⟨w.heap.size, 2, none⟩ (.string U))) :=
        ⟨m, T, U, g, x, m0, m1, hT, hU, gz, xz, rfl, ((HD8.out.old.setCell (Nat.le_refl _) _).setCell (Nat.le_refl _) _).setCell (Nat.le_refl _) _⟩
      go_wp2_with fail
      refine bodyPost_ret (v := .tuple #[strV m T U, .string g, .string x]) ?_ rfl HP.out
      exact results_str3 rfl rfl HD8.out.res.set3 rfl rfl
end Go.Proofs.YtdcnpjekmnlgjaaGreatDoor
