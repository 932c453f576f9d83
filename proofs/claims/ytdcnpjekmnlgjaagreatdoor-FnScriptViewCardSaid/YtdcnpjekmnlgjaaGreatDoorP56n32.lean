/- Contracts of the program's functions and what they compute: part 32. Conditions: those that each theorem states. -/
import Derived.Test.YtdcnpjekmnlgjaaGreatDoorP56n15
import Derived.Test.YtdcnpjekmnlgjaaGreatDoorP56n23
import Derived.Test.YtdcnpjekmnlgjaaGreatDoorP56n24
import Derived.Test.YtdcnpjekmnlgjaaGreatDoorP56n27
import Derived.Test.YtdcnpjekmnlgjaaGreatDoorP56n31
import Derived.Test.YtdcnpjekmnlgjaaGreatDoorP56n2
import Derived.Test.YtdcnpjekmnlgjaaGreatDoorP56n6
import Derived.Test.YtdcnpjekmnlgjaaGreatDoorP56n13
import Derived.Test.YtdcnpjekmnlgjaaGreatDoorP56n4
namespace Go.Proofs.YtdcnpjekmnlgjaaGreatDoor
open Go.RowKit
set_option linter.unusedVariables false
set_option maxRecDepth 100000
set_option maxHeartbeats 1000000 in
/-- A text becomes the formula. -/
theorem rewrite_yes (f : ByteArray) (a : DS) (W : World) (d : Nat) (hD : DeskAt W d a) :
    Calls Tryz.prog 67 #[.pointer (some ⟨d, 0, none⟩), .string f, .bool true] W fun e w' => e = .returned (.string f) ∧ DeskAt w' d { a with f := f } ∧ Off (fun x => x = d) W w' := by
  obtain ⟨c0, c1, c2, c3, c4, c5, c6, cf⟩ := hD.cells
  have cf6 := cf 6
  have HF : Hid (DeskAt (W.setCell ⟨d, 6, none⟩ (.string f)) d { a with f := f } ∧ Off (fun x => x = d) W (W.setCell ⟨d, 6, none⟩ (.string f))) := ⟨hD.setF f, off_setD⟩
  clear cf hD
  go_enter Tryz.func67, Tryz.ntmps67
  go_wp2_with fail
  go_ret
  exact ⟨rfl, HF.out⟩
theorem contains_no (s : ByteArray) (c : UInt8) (h : c ∉ s.data.toList) (w : World) :
    Calls Tryz.prog 65 #[.string s, .string ⟨#[c]⟩] w fun e w' => e = .returned (.bool false) ∧ w' = w := by
  have h1 := contains_one s c w
  have h2 : Lib.indexByte s.data.toList c = -1 := by rw [← index_bytes]; exact index_no c _ h
  rw [h2] at h1
  exact h1
set_option maxHeartbeats 1000000 in
/-- The line "view f;g". -/
theorem run_view (w0 : World) (a : DS) (f g : ByteArray) (n : Nat) (T U : ByteArray) (hn : a.n = (n : Int)) (hf : (59 : UInt8) ∉ f.data.toList) (hg : (59 : UInt8) ∉ g.data.toList) (hz : f.size + g.size ≤ 1000000) (hT : validB n T U = true)
    (hI : ∀ w, Calls Tryz.prog 5 #[strV n a.S a.R, .string f, .string g] w fun en w' => en = .returned (.tuple #[strV n T U, .bool true]) ∧ Below w.heap.size w w') :
    RunOK w0 (⟨#[118, 105, 101, 119]⟩ ++ ⟨#[32]⟩ ++ (f ++ ⟨#[59]⟩ ++ g)) a (a.left n T U) (fmtS T U) := by
  intro W d hd hB hD
  have hz2 : (f ++ ⟨#[59]⟩ ++ g).size = f.size + 1 + g.size := by rw [ByteArray.size_append, ByteArray.size_append]; rfl
  have HCU := Lib.hid (fun w => cut_line ⟨#[118, 105, 101, 119]⟩ (f ++ ⟨#[59]⟩ ++ g) (by decide) (by rw [ByteArray.size_append, ByteArray.size_append]; show 4 + 1 + _ ≤ _; omega) w)
  have HC2 := Lib.hid (fun w => cut_sep 59 f g hf (by omega) w)
  have HCO := Lib.hid (fun w => contains_no g 59 hg w)
  have HI := Lib.hid hI
  rw [← hn] at HI
  have HP := Lib.hid (fun W hD => become_yes n T U hT a W d hD)
  change Hid (∀ W (hD : DeskAt W d a), Calls _ _ _ W fun e w' => e = .returned (.string (fmtS T U)) ∧ DeskAt w' d (a.left n T U) ∧ Off (fun x => x = d) W w') at HP
  have HD := Lib.hid hD
  generalize fmtS T U = F at *
  generalize a.left n T U = a2 at *
  generalize (⟨#[118, 105, 101, 119]⟩ : ByteArray) ++ ⟨#[32]⟩ ++ (f ++ ⟨#[59]⟩ ++ g) = line at *
  generalize f ++ ⟨#[59]⟩ ++ g = rest at *
  rw [hn] at HI
  unfold strV at HI HP
  obtain ⟨c0, c1, c2, c3, c4, c5, c6, cf⟩ := hD.cells
  clear cf c0 c1 c2 c3 c4 c5 c6 hD hT hf hg hz hz2 hI
  go_enter Tryz.func36, Tryz.ntmps36
  go_wp2_with fail
  refine (HCU.out _).mono ?_; rintro e w1 ⟨rfl, hb⟩
  have HD1 : Hid (DeskAt w1 d a ∧ Off (fun x => x = d) W w1) := ⟨HD.out.below hb, Off.of_below hb⟩
  clear hb HD
  go_wp2_with fail
  refine (HC2.out _).mono ?_; rintro e w2 ⟨rfl, hb⟩
  have HD2 : Hid (DeskAt w2 d a ∧ Off (fun x => x = d) W w2) := ⟨HD1.out.1.below hb, HD1.out.2.trans (Off.of_below (F := fun _ => False) hb) (fun _ h => h.elim)⟩
  clear hb HD1
  go_wp2_with fail
  refine (HCO.out _).mono ?_; rintro e wz ⟨rfl, hw⟩; rw [hw]; clear hw wz
  obtain ⟨c0, c1, c2, c3, c4, c5, c6, cf⟩ := HD2.out.1.cells
  rw [hn] at c0
  clear cf
  go_wp2_with fail
  refine (HI.out _).mono ?_; rintro e w3 ⟨rfl, hb⟩
  have HD3 : Hid (DeskAt w3 d a ∧ Off (fun x => x = d) W w3) := ⟨HD2.out.1.below hb, HD2.out.2.trans (Off.of_below (F := fun _ => False) hb) (fun _ h => h.elim)⟩
  clear hb HD2 c0 c1 c2 c3 c4 c5 c6
  go_wp2_with fail
  refine (HP.out _ HD3.out.1).mono ?_; rintro e w4 ⟨rfl, hd4, ho4⟩
  have HD4 : Hid (DeskAt w4 d a2 ∧ Off (fun x => x = d) W w4) := ⟨hd4, HD3.out.2.trans ho4 (fun _ h => .inl h)⟩
  clear hd4 ho4
  go_wp2_with fail
  go_ret
  exact ⟨rfl, HD4.out⟩
set_option maxHeartbeats 1000000 in
/-- The line "pull f;g". -/
theorem run_pull (w0 : World) (a : DS) (f g k : ByteArray) (hf : (59 : UInt8) ∉ f.data.toList) (hg : (59 : UInt8) ∉ g.data.toList) (hz : f.size + g.size ≤ 1000000)
    (hI : ∀ w, Calls Tryz.prog 7 #[.string a.f, .string f, .string g] w fun en w' => en = .returned (.tuple #[.string k, .bool true]) ∧ Below w.heap.size w w') :
    RunOK w0 (⟨#[112, 117, 108, 108]⟩ ++ ⟨#[32]⟩ ++ (f ++ ⟨#[59]⟩ ++ g)) a { a with f := k } k := by
  intro W d hd hB hD
  have hz2 : (f ++ ⟨#[59]⟩ ++ g).size = f.size + 1 + g.size := by rw [ByteArray.size_append, ByteArray.size_append]; rfl
  have HCU := Lib.hid (fun w => cut_line ⟨#[112, 117, 108, 108]⟩ (f ++ ⟨#[59]⟩ ++ g) (by decide) (by rw [ByteArray.size_append, ByteArray.size_append]; show 4 + 1 + _ ≤ _; omega) w)
  have HC2 := Lib.hid (fun w => cut_sep 59 f g hf (by omega) w)
  have HCO := Lib.hid (fun w => contains_no g 59 hg w)
  have HI := Lib.hid hI
  have HP := Lib.hid (fun W hD => rewrite_yes k a W d hD)
  have HD := Lib.hid hD
  generalize (⟨#[112, 117, 108, 108]⟩ : ByteArray) ++ ⟨#[32]⟩ ++ (f ++ ⟨#[59]⟩ ++ g) = line at *
  generalize f ++ ⟨#[59]⟩ ++ g = rest at *
  generalize { a with f := k } = a2 at *
  clear hD hf hg hz hz2 hI
  go_enter Tryz.func36, Tryz.ntmps36
  go_wp2_with fail
  refine (HCU.out _).mono ?_; rintro e w1 ⟨rfl, hb⟩
  have HD1 : Hid (DeskAt w1 d a ∧ Off (fun x => x = d) W w1) := ⟨HD.out.below hb, Off.of_below hb⟩
  clear hb HD
  go_wp2_with fail
  refine (HC2.out _).mono ?_; rintro e w2 ⟨rfl, hb⟩
  have HD2 : Hid (DeskAt w2 d a ∧ Off (fun x => x = d) W w2) := ⟨HD1.out.1.below hb, HD1.out.2.trans (Off.of_below (F := fun _ => False) hb) (fun _ h => h.elim)⟩
  clear hb HD1
  go_wp2_with fail
  refine (HCO.out _).mono ?_; rintro e wz ⟨rfl, hw⟩; rw [hw]; clear hw wz
  obtain ⟨c0, c1, c2, c3, c4, c5, c6, cf⟩ := HD2.out.1.cells
  clear cf
  go_wp2_with fail
  refine (HI.out _).mono ?_; rintro e w3 ⟨rfl, hb⟩
  have HD3 : Hid (DeskAt w3 d a ∧ Off (fun x => x = d) W w3) := ⟨HD2.out.1.below hb, HD2.out.2.trans (Off.of_below (F := fun _ => False) hb) (fun _ h => h.elim)⟩
  clear hb HD2 c0 c1 c2 c3 c4 c5 c6
  go_wp2_with fail
  refine (HP.out _ HD3.out.1).mono ?_; rintro e w4 ⟨rfl, hd4, ho4⟩
  have HD4 : Hid (DeskAt w4 d a2 ∧ Off (fun x => x = d) W w4) := ⟨hd4, HD3.out.2.trans ho4 (fun _ h => .inl h)⟩
  clear hd4 ho4
  go_wp2_with fail
  go_ret
  exact ⟨rfl, HD4.out⟩
end Go.Proofs.YtdcnpjekmnlgjaaGreatDoor

namespace Go.Proofs.YtdcnpjekmnlgjaaGreatDoor
open Go.RowKit
set_option linter.unusedVariables false
set_option maxRecDepth 100000
theorem vb_ge (v : Fin 4) : 33 ≤ (Fm.vb v).toNat := by revert v; decide
theorem text_ge : ∀ (φ : Fm.T) (c : UInt8), c ∈ Fm.text φ → 33 ≤ c.toNat
  | .lit b, c, h => by
    cases b
    · simp [Fm.text] at h; subst h; decide
    · simp [Fm.text] at h; subst h; decide
  | .set v, c, h => by
    simp [Fm.text] at h
    rcases h with rfl | rfl
    · decide
    · exact vb_ge v
  | .rel e v w, c, h => by
    cases e
    all_goals
      simp [Fm.text] at h
      rcases h with rfl | rfl | rfl
      · decide
      · exact vb_ge v
      · exact vb_ge w
  | .neg f, c, h => by
    simp [Fm.text] at h
    rcases h with rfl | h
    · decide
    · exact text_ge f c h
  | .bin o f g, c, h => by
    cases o
    all_goals
      simp [Fm.text] at h
      rcases h with rfl | h | h
      · decide
      · exact text_ge f c h
      · exact text_ge g c h
  | .qu q v f, c, h => by
    simp [Fm.text] at h
    rcases h with rfl | rfl | h
    · cases q <;> decide
    · exact vb_ge v
    · exact text_ge f c h
theorem read_ge {f : ByteArray} {φ : Fm.T} (h : readB f = some φ) : ∀ c ∈ f.data.toList, 33 ≤ c.toNat := by
  unfold readB at h
  rw [(Fm.read_iff.1 h).1]
  exact fun c hc => text_ge φ c hc
theorem ge_no {l : List UInt8} (h : ∀ c ∈ l, 33 ≤ c.toNat) : (10 : UInt8) ∉ l ∧ (32 : UInt8) ∉ l := by
  constructor
  · intro hm
    have := h 10 hm
    revert this; decide
  · intro hm
    have := h 32 hm
    revert this; decide
end Go.Proofs.YtdcnpjekmnlgjaaGreatDoor

namespace Go.Proofs.YtdcnpjekmnlgjaaGreatDoor
open Go.RowKit
set_option linter.unusedVariables false
set_option maxRecDepth 100000
/-- The lines of the script. -/
def viewLines (s h f g : ByteArray) : List ByteArray := [(⟨#[108, 101, 102, 116, 32]⟩ : ByteArray) ++ s, (⟨#[114, 105, 103, 104, 116, 32]⟩ : ByteArray) ++ s, (⟨#[102, 111, 114, 109, 117, 108, 97, 32]⟩ : ByteArray) ++ h, (⟨#[118, 105, 101, 119, 32]⟩ : ByteArray) ++ f ++ (⟨#[59]⟩ : ByteArray) ++ g, (⟨#[104, 111, 108, 100, 115]⟩ : ByteArray), (⟨#[112, 117, 108, 108, 32]⟩ : ByteArray) ++ f ++ (⟨#[59]⟩ : ByteArray) ++ g, (⟨#[101, 120, 99, 104, 97, 110, 103, 101]⟩ : ByteArray), (⟨#[104, 111, 108, 100, 115]⟩ : ByteArray)]
theorem viewScript (s h f g : ByteArray) : (⟨#[108, 101, 102, 116, 32]⟩ : ByteArray) ++ s ++ (⟨#[10, 114, 105, 103, 104, 116, 32]⟩ : ByteArray) ++ s ++ (⟨#[10, 102, 111, 114, 109, 117, 108, 97, 32]⟩ : ByteArray) ++ h ++ (⟨#[10, 118, 105, 101, 119, 32]⟩ : ByteArray) ++ f ++ (⟨#[59]⟩ : ByteArray) ++ g ++ (⟨#[10, 104, 111, 108, 100, 115, 10, 112, 117, 108, 108, 32]⟩ : ByteArray) ++ f ++ (⟨#[59]⟩ : ByteArray) ++ g ++ (⟨#[10, 101, 120, 99, 104, 97, 110, 103, 101, 10, 104, 111, 108, 100, 115, 10]⟩ : ByteArray) = linesB (viewLines s h f g) := by
  apply ByteArray.ext
  apply Array.toList_inj.1
  simp [linesB, viewLines, linesL, ByteArray.data_append, Array.toList_append]
theorem viewLines_no (s h f g : ByteArray) (hs : (10 : UInt8) ∉ s.data.toList) (hh : (10 : UInt8) ∉ h.data.toList) (hf : (10 : UInt8) ∉ f.data.toList) (hg : (10 : UInt8) ∉ g.data.toList) : ∀ l ∈ viewLines s h f g, (10 : UInt8) ∉ l.data.toList := by
  intro l hl
  simp only [viewLines, List.mem_cons, List.not_mem_nil, or_false] at hl
  rcases hl with rfl | rfl | rfl | rfl | rfl | rfl | rfl | rfl
  · simp [ByteArray.data_append, Array.toList_append, hs]
  · simp [ByteArray.data_append, Array.toList_append, hs]
  · simp [ByteArray.data_append, Array.toList_append, hh]
  · simp [ByteArray.data_append, Array.toList_append, hf, hg]
  · decide
  · simp [ByteArray.data_append, Array.toList_append, hf, hg]
  · decide
  · decide
theorem viewLines_ne (s h f g : ByteArray) : ∀ l ∈ viewLines s h f g, l ≠ ByteArray.empty := by
  intro l hl
  simp only [viewLines, List.mem_cons, List.not_mem_nil, or_false] at hl
  rcases hl with rfl | rfl | rfl | rfl | rfl | rfl | rfl | rfl
  · intro h; have := congrArg (fun b : ByteArray => b.data.toList.length) h; simp [ByteArray.data_append, Array.toList_append] at this
  · intro h; have := congrArg (fun b : ByteArray => b.data.toList.length) h; simp [ByteArray.data_append, Array.toList_append] at this
  · intro h; have := congrArg (fun b : ByteArray => b.data.toList.length) h; simp [ByteArray.data_append, Array.toList_append] at this
  · intro h; have := congrArg (fun b : ByteArray => b.data.toList.length) h; simp [ByteArray.data_append, Array.toList_append] at this
  · decide
  · intro h; have := congrArg (fun b : ByteArray => b.data.toList.length) h; simp [ByteArray.data_append, Array.toList_append] at this
  · decide
  · decide
/-- The answers of the script. -/
def viewAns (s fb ti tw tp k : ByteArray) : List ByteArray := [(⟨#[111, 107]⟩ : ByteArray), (⟨#[111, 107]⟩ : ByteArray), (⟨#[111, 107]⟩ : ByteArray), fb, ti ++ (⟨#[32]⟩ : ByteArray) ++ tw, k, s, ti ++ (⟨#[32]⟩ : ByteArray) ++ tp]
theorem viewOut (s fb ti tw tp k : ByteArray) : (⟨#[111, 107, 10, 111, 107, 10, 111, 107, 10]⟩ : ByteArray) ++ fb ++ (⟨#[10]⟩ : ByteArray) ++ ti ++ (⟨#[32]⟩ : ByteArray) ++ (tw ++ ⟨#[10]⟩) ++ k ++ (⟨#[10]⟩ : ByteArray) ++ s ++ (⟨#[10]⟩ : ByteArray) ++ ti ++ (⟨#[32]⟩ : ByteArray) ++ (tp ++ ⟨#[10]⟩) = outT (viewAns s fb ti tw tp k) := by
  apply ByteArray.ext
  apply Array.toList_inj.1
  simp [outT, viewAns, ByteArray.data_append, Array.toList_append]
end Go.Proofs.YtdcnpjekmnlgjaaGreatDoor
