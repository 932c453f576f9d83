/- Contracts of the program's functions and what they compute: part 25. Conditions: those that each theorem states. -/
import Derived.Test.YtihomcedaaiidaaGreatDoorP55n10
import Derived.Test.YtihomcedaaiidaaGreatDoorP55n18
import Derived.Test.YtihomcedaaiidaaGreatDoorP55n21
import Derived.Test.YtihomcedaaiidaaGreatDoorP55n22
import Derived.Test.YtihomcedaaiidaaGreatDoorP55n23
import Derived.Test.YtihomcedaaiidaaGreatDoorP55n24
import Derived.Test.YtihomcedaaiidaaGreatDoorP55n12
import Derived.Test.YtihomcedaaiidaaGreatDoorP55n20
import Derived.Laws.ResultCell
import Derived.Lib.SlBytesConst
import Derived.Laws.Cover3
namespace Go.Proofs.YtihomcedaaiidaaGreatDoor
open Go.RowKit
set_option linter.unusedVariables false
set_option maxRecDepth 100000
/-- What is told of a text that is put: it, if it is not too long. -/
def shortV (r : Option Fm.T) : Value := match r with
  | none => .tuple #[.string ⟨#[]⟩, .bool false]
  | some ψ => if (Fm.text ψ).length ≤ 4000 then .tuple #[.string (txtS (Fm.text ψ)), .bool true] else .tuple #[.string ⟨#[]⟩, .bool false]
theorem shortFormula_any (s : ByteArray) (b : Bool) (R : Value) (hR : (if b = true ∧ s.size ≤ 4000 then (.tuple #[.string s, .bool true] : Value) else .tuple #[.string ⟨#[]⟩, .bool false]) = R) (w : World) (hs : s.size ≤ 9223372036854775807) :
    Calls Tryz.prog 28 #[.string s, .bool b] w fun e w' => e = .returned R ∧ w' = w := by
  by_cases h : s.size ≤ 4000
  · have hI : ¬ ((4000 : Int) < (s.size : Int)) := by omega
    cases b
    · have HE : Hid (R = .tuple #[.string ⟨#[]⟩, .bool false]) := by show _ = _; rw [← hR]; exact if_neg (by simp)
      clear hR h
      go_enter Tryz.func28, Tryz.ntmps28
      go_wp2_with fail
      go_ret2
      exact ⟨congrArg Ending.returned HE.out.symm, rfl⟩
    · have HE : Hid (R = .tuple #[.string s, .bool true]) := by show _ = _; rw [← hR]; exact if_pos ⟨rfl, h⟩
      clear hR h
      go_enter Tryz.func28, Tryz.ntmps28
      go_wp2_with fail
      go_ret2
      exact ⟨congrArg Ending.returned HE.out.symm, rfl⟩
  · have hI : ((4000 : Int) < (s.size : Int)) := by omega
    have HE : Hid (R = .tuple #[.string ⟨#[]⟩, .bool false]) := by show _ = _; rw [← hR]; exact if_neg (fun h' => h h'.2)
    clear hR h
    cases b
    all_goals
      go_enter Tryz.func28, Tryz.ntmps28
      go_wp2_with fail
      go_ret2
      exact ⟨congrArg Ending.returned HE.out.symm, rfl⟩
theorem short_form (r : Option Fm.T) : ∃ s b, shortV r = .tuple #[.string s, .bool b] := by
  cases r with
  | none => exact ⟨_, _, rfl⟩
  | some ψ =>
    unfold shortV
    by_cases h : (Fm.text ψ).length ≤ 4000
    · simp only [if_pos h]; exact ⟨_, _, rfl⟩
    · simp only [if_neg h]; exact ⟨_, _, rfl⟩
/-- What PullBack returns. -/
def pbRes (h f g : ByteArray) : Option Fm.T :=
  match readB h, viewB f g with
  | some χ, some (φ, ψ) => Fm.putG (some (φ, ψ)) χ id
  | _, _ => none
theorem pb_none1 {h f g : ByteArray} (e : readB h = none) : pbRes h f g = none := by unfold pbRes; rw [e]
theorem pb_none2 {h f g : ByteArray} (e : viewB f g = none) : pbRes h f g = none := by unfold pbRes; rw [e]; cases readB h <;> rfl
theorem pb_some {h f g : ByteArray} {χ φ ψ : Fm.T} (e : readB h = some χ) (e2 : viewB f g = some (φ, ψ)) : pbRes h f g = Fm.putG (some (φ, ψ)) χ id := by unfold pbRes; rw [e, e2]
theorem read_len {f : ByteArray} {φ : Fm.T} (h : readB f = some φ) : (Fm.text φ).length ≤ 4000 ∧ f.data.toList = Fm.text φ := by
  have := (Fm.read_iff (s := f.data.toList)).1 h
  rw [← this.1]; exact ⟨this.2, rfl⟩
theorem viewB_reads {f g : ByteArray} {φ ψ : Fm.T} (h : viewB f g = some (φ, ψ)) : readB f = some φ ∧ readB g = some ψ := by
  unfold viewB at h
  cases hf : readB f with
  | none => rw [hf] at h; cases h
  | some φ' =>
    cases hg : readB g with
    | none => rw [hf, hg] at h; cases h
    | some ψ' =>
      rw [hf, hg] at h
      simp only at h
      by_cases hz : Fm.free φ' / 2 = 0 ∧ Fm.free ψ' / 4 = 0
      · rw [if_pos hz] at h
        injection h with h
        injection h with h1 h2
        exact ⟨by rw [h1], by rw [h2]⟩
      · rw [if_neg hz] at h; cases h
theorem implpullBack_any (χ φ ψ : Fm.T) (F : Nat → Prop) (w : World) (p a b : Nat) (h0 : (Fm.text χ).length ≤ 4000) (h1 : (Fm.text φ).length ≤ 4000) (h2 : (Fm.text ψ).length ≤ 4000) (ht : Tree F w χ p) (ha : Tree F w φ a) (hb : Tree F w ψ b) :
    Calls Tryz.prog 61 #[ptrV p, ptrV a, ptrV b] w fun e w' => e = .returned (shortV (Fm.putG (some (φ, ψ)) χ id)) ∧ Below w.heap.size w w' := by
  obtain ⟨W, hW⟩ : ∃ W, w.alloc (.cells #[.int .u8 97, .int .u8 98, .int .u8 99, .int .u8 100] 5 (4, 5)) = W := ⟨_, rfl⟩
  have al : Below w.heap.size w W := by rw [← hW]; exact (Below.refl _ _).alloc (Nat.le_refl _) _
  have HC : Hid (Calls Tryz.prog 95 #[.agg #[.pointer (some ⟨a, 0, none⟩), .pointer (some ⟨b, 0, none⟩)], .pointer (some ⟨p, 0, none⟩), .agg #[.int .u8 97, .int .u8 98, .int .u8 99, .int .u8 100]] W fun e w' => e = .returned (putVal (Fm.putG (some (φ, ψ)) χ id)) ∧ Below W.heap.size W w') :=
    put_view φ ψ χ h1 h2 h0 F _ p id _ _ (ht.below al) (.inr ⟨φ, ψ, a, b, rfl, rfl, rfl, ha.below al, hb.below al⟩)
  have HA := Lib.hid al
  have HSZ : Hid (∀ r, Fm.putG (some (φ, ψ)) χ id = some r → (Fm.text r).length ≤ 16000000) := fun r hr => Fm.putG_size (fun q hq => by injection hq with hq; subst hq; exact ⟨h1, h2⟩) h0 hr
  clear ht ha hb al h0 h1 h2
  generalize Fm.putG (some (φ, ψ)) χ id = r at *
  obtain ⟨s, b2, hv, hs, hsv⟩ : ∃ s b2, putVal r = .tuple #[.string s, .bool b2] ∧ s.size ≤ 16000000 ∧ (if b2 = true ∧ s.size ≤ 4000 then (.tuple #[.string s, .bool true] : Value) else .tuple #[.string ⟨#[]⟩, .bool false]) = shortV r := by
    cases r with
    | none => exact ⟨ByteArray.empty, false, rfl, by simp, by rw [if_neg (by simp)]; rfl⟩
    | some ψ' =>
      refine ⟨_, true, rfl, by rw [txtS_size]; exact HSZ.out _ rfl, ?_⟩
      rw [txtS_size]
      unfold shortV
      by_cases h : (Fm.text ψ').length ≤ 4000
      · rw [if_pos ⟨rfl, h⟩]; simp only [if_pos h]
      · rw [if_neg (fun h' => h h'.2)]; simp only [if_neg h]
  rw [hv] at HC
  have HSF := Lib.hid (fun w => shortFormula_any s b2 _ hsv w (by omega))
  obtain ⟨s3, b3, hsf⟩ := short_form r
  rw [hsf] at HSF ⊢
  clear hsf hv hsv HSZ
  have cs := Lib.run_convert_bytes_const (P := Tryz.prog) w 22 5 #[.int .u8 97, .int .u8 98, .int .u8 99, .int .u8 100] 4 4 Tryz.underlying22 Tryz.underlying5
  replace cs : (convert 22 22 (.slice (some ⟨w.heap.size, 0, none⟩) 4 4)).run Tryz.prog (w.alloc (.cells #[.int .u8 97, .int .u8 98, .int .u8 99, .int .u8 100] 5)) = .ok (.slice (some ⟨w.heap.size, 0, none⟩) 4 4) W := by rw [← hW]; exact cs
  have ap := run_arrayAt (P := Tryz.prog) W 129 _ 4 (some ⟨w.heap.size, 0, none⟩) 4 4 Tryz.underlying129 (Nat.le_refl 4)
  have dd : ∀ k v, (#[.int .u8 97, .int .u8 98, .int .u8 99, .int .u8 100] : Array Value)[k]? = some v → W.cell? ⟨w.heap.size, k, none⟩ = some v := fun k v hk => by
    rw [← hW]
    unfold World.cell?
    rw [heap_alloc_new]
    exact hk
  have d0 := dd 0 _ rfl
  have d1 := dd 1 _ rfl
  have d2 := dd 2 _ rfl
  have d3 := dd 3 _ rfl
  clear dd hW
  unfold ptrV
  go_enter Tryz.func61, Tryz.ntmps61
  go_wp2_with fail
  refine HC.out.mono ?_; rintro e w2 ⟨rfl, hb2⟩
  have HB2 := Lib.hid (HA.out.trans (hb2.mono HA.out.size))
  clear hb2
  go_wp2_with fail
  refine (HSF.out _).mono ?_; rintro e w3 ⟨rfl, hw3⟩; rw [hw3]; clear hw3 w3
  go_wp2_with fail
  go_ret2
  exact ⟨rfl, HB2.out⟩
set_option maxHeartbeats 1000000 in
theorem implPullBack_any (h f g : ByteArray) (hh : h.size ≤ 9223372036854775807) (hf : f.size ≤ 9223372036854775807) (hg : g.size ≤ 9223372036854775807) (w : World) :
    Calls Tryz.prog 35 #[.string h, .string f, .string g] w fun e w' => e = .returned (shortV (pbRes h f g)) ∧ Below w.heap.size w w' := by
  obtain ⟨R, hR⟩ : ∃ R, pbRes h f g = R := ⟨_, rfl⟩
  rw [hR]
  go_enter Tryz.func35, Tryz.ntmps35
  go_wp2_with fail
  refine (viewOf_any f g hf hg _).mono ?_
  rintro en w1 ⟨hb1, hor⟩
  have HB1 := Lib.hid hb1
  clear hb1
  rcases hor with ⟨hr, rfl⟩ | ⟨φ, ψ, p, q, hr, rfl, ht, ht2⟩
  · have HV : Hid (shortV R = .tuple #[.string ⟨#[]⟩, .bool false]) := by show _ = _; rw [← hR, pb_none2 hr]; rfl
    clear hr hR
    go_wp2_with fail
    refine (parseFormula_any h _ hh).mono ?_
    rintro en w2 ⟨hb2, hor⟩
    have HB2 := Lib.hid (HB1.out.trans (hb2.mono HB1.out.size))
    clear hb2
    rcases hor with ⟨_, rfl⟩ | ⟨χ, n, _, rfl, ht⟩
    · go_wp2_with fail
      go_ret2
      exact ⟨congrArg Ending.returned HV.out.symm, HB2.out⟩
    · clear ht
      unfold ptrV
      go_wp2_with fail
      go_ret2
      exact ⟨congrArg Ending.returned HV.out.symm, HB2.out⟩
  · have HT := Lib.hid ht
    have HT2 := Lib.hid ht2
    have HR := Lib.hid hr
    clear ht ht2 hr
    unfold ptrV
    go_wp2_with fail
    refine (parseFormula_any h _ hh).mono ?_
    rintro en w2 ⟨hb2, hor⟩
    have HB2 := Lib.hid (HB1.out.trans (hb2.mono HB1.out.size))
    rcases hor with ⟨he, rfl⟩ | ⟨χ, n, he, rfl, ht⟩
    · have HV : Hid (shortV R = .tuple #[.string ⟨#[]⟩, .bool false]) := by show _ = _; rw [← hR, pb_none1 he]; rfl
      clear he hR hb2
      go_wp2_with fail
      go_ret2
      exact ⟨congrArg Ending.returned HV.out.symm, HB2.out⟩
    · have v := viewB_reads HR.out
      have HC := Lib.hid (implpullBack_any χ φ ψ (fun _ => True) w2 n p q (read_len he).1 (read_len v.1).1 (read_len v.2).1 (ht.mono (fun _ _ => trivial)) ((HT.out.below hb2).mono (fun _ _ => trivial)) ((HT2.out.below hb2).mono (fun _ _ => trivial)))
      have hRR := hR.symm.trans (pb_some he HR.out)
      rw [← hRR] at HC
      obtain ⟨s, b, hsf⟩ := short_form R
      rw [hsf] at HC
      have HSF := Lib.hid hsf
      unfold ptrV at HC
      clear hRR hR he v ht hb2 hsf
      unfold ptrV
      go_wp2_with fail
      refine HC.out.mono ?_; rintro e w3 ⟨rfl, hb3⟩
      have HB3 := Lib.hid (HB2.out.trans (hb3.mono HB2.out.size))
      clear hb3
      go_wp2_with fail
      go_ret2
      exact ⟨congrArg Ending.returned HSF.out.symm, HB3.out⟩
end Go.Proofs.YtihomcedaaiidaaGreatDoor

namespace Go.Proofs.YtihomcedaaiidaaGreatDoor
open Go.RowKit
set_option linter.unusedVariables false
set_option maxRecDepth 100000
set_option maxHeartbeats 1000000 in
/-- A text becomes the formula. -/
theorem rewrite_yes (f : ByteArray) (a : DS) (W : World) (d : Nat) (hD : DeskAt W d a) :
    Calls Tryz.prog 77 #[.pointer (some ⟨d, 0, none⟩), .string f, .bool true] W fun e w' => e = .returned (.string f) ∧ DeskAt w' d { a with f := f } ∧ Off (fun x => x = d) W w' := by
  obtain ⟨c0, c1, c2, c3, c4, c5, c6, cf⟩ := hD.cells
  have cf6 := cf 6
  have HF : Hid (DeskAt (W.setCell ⟨d, 6, none⟩ (.string f)) d { a with f := f } ∧ Off (fun x => x = d) W (W.setCell ⟨d, 6, none⟩ (.string f))) := ⟨hD.setF f, off_setD⟩
  clear cf hD
  go_enter Tryz.func77, Tryz.ntmps77
  go_wp2_with fail
  go_ret
  exact ⟨rfl, HF.out⟩
end Go.Proofs.YtihomcedaaiidaaGreatDoor
