/- Contracts of the program's functions and what they compute: part 41. Conditions: those that each theorem states. -/
import Derived.Test.YtlkemhhkcanmoaaGreatDoorP54n1
import Derived.Test.YtlkemhhkcanmoaaGreatDoorP54n7
import Derived.Test.YtlkemhhkcanmoaaGreatDoorP54n33
import Derived.Test.YtlkemhhkcanmoaaGreatDoorP54n40
import Derived.Test.YtlkemhhkcanmoaaGreatDoorP54n37
import Derived.Test.YtlkemhhkcanmoaaGreatDoorP54n38
import Derived.Test.YtlkemhhkcanmoaaGreatDoorP54n36
import Derived.Test.YtlkemhhkcanmoaaGreatDoorP54n6
import Derived.Test.YtlkemhhkcanmoaaGreatDoorP54n10
import Derived.Test.YtlkemhhkcanmoaaGreatDoorP54n20
import Derived.Test.YtlkemhhkcanmoaaGreatDoorP54n23
import Derived.IntWalk
import Derived.Maps.AppendAt
import Derived.Test.YtlkemhhkcanmoaaGreatDoorShelf3
import Derived.OwnWalk
import Derived.Deep.QuietTactic
import Derived.BigQuiet
namespace Go.Proofs.YtlkemhhkcanmoaaGreatDoor
open Go.RowKit
set_option linter.unusedVariables false
set_option maxRecDepth 100000
/-- The plain form of a word's structure. -/
def wSt' (s : ByteArray) : Gs.St := stOf s.size (bitsOf (letB s) s.size) (gridOf ltB s.size)
end Go.Proofs.YtlkemhhkcanmoaaGreatDoor

namespace Go.Proofs.YtlkemhhkcanmoaaGreatDoor
open Go.RowKit
set_option linter.unusedVariables false
set_option maxRecDepth 100000
/-- The answers of the script. -/
def wordAns (F s : ByteArray) (b : Bool) (L C : List Nat) : List ByteArray :=
  [F, ⟨#[48, 58, 48]⟩, F, s, ⟨#[111, 107]⟩, truthB b ++ ⟨#[32]⟩ ++ truthB b, ⟨#[111, 107]⟩, numsB L, numsB C]
theorem word_out (F s g tr : ByteArray) (b : Bool) (L C : List Nat) (ht : tr = truthB b) (hg : g = truthB b ++ ⟨#[10]⟩) :
    F ++ ⟨#[10, 48, 58, 48, 10]⟩ ++ F ++ ⟨#[10]⟩ ++ s ++ ⟨#[10, 111, 107, 10]⟩ ++ tr ++ ⟨#[32]⟩ ++ g ++ ⟨#[111, 107, 10]⟩ ++ numsB L ++ ⟨#[10]⟩ ++ numsB C ++ ⟨#[10]⟩ = outT (wordAns F s b L C) := by
  rw [ht, hg]
  apply ByteArray.ext
  apply Array.toList_inj.1
  simp [outT, wordAns, ByteArray.data_append, Array.toList_append]
theorem outT_foldl : ∀ (os : List ByteArray) (t : ByteArray), (os.foldl (fun t o => t ++ (o ++ ⟨#[10]⟩)) t).size = t.size + (os.map fun o => o.size + 1).sum
  | [], t => by simp
  | o :: os, t => by
    rw [List.foldl_cons, outT_foldl os, ByteArray.size_append, ByteArray.size_append, List.map_cons, List.sum_cons]
    show t.size + (o.size + 1) + _ = _
    omega
theorem outT_size (os : List ByteArray) : (outT os).size = (os.map fun o => o.size + 1).sum := by
  unfold outT
  rw [outT_foldl]
  show 0 + _ = _
  omega
theorem sum_take (l : List Nat) : ∀ j, (l.take j).sum ≤ l.sum := by
  induction l with
  | nil => intro j; simp
  | cons x l ih =>
    intro j
    cases j with
    | zero => simp
    | succ j => have := ih j; simp only [List.take_succ_cons, List.sum_cons]; omega
theorem outT_take (os : List ByteArray) (j : Nat) : (outT (os.take j)).size ≤ (outT os).size := by
  rw [outT_size, outT_size, List.map_take]
  exact sum_take _ _
theorem linesL_size : ∀ ls : List ByteArray, (linesL (ls.map fun s => s.data.toList)).length = (ls.map fun o => o.size + 1).sum
  | [] => rfl
  | l :: ls => by
    have := linesL_size ls
    simp only [List.map_cons, linesL, List.length_append, List.length_cons, List.sum_cons, this]
    have : l.data.toList.length = l.size := by simp
    omega
theorem linesB_size (ls : List ByteArray) : (linesB ls).size = (ls.map fun o => o.size + 1).sum := by
  rw [← linesL_size]
  show (linesL _).toArray.size = _
  simp
theorem wordLines_ne (w f : ByteArray) : ∀ l ∈ wordLines w f, l ≠ ByteArray.empty := by
  intro l hl h
  subst h
  have := congrArg (fun ls : List ByteArray => ls.all fun l => decide (0 < l.size)) (show wordLines w f = wordLines w f from rfl)
  have hall : ∀ l ∈ wordLines w f, 0 < l.size := by
    intro l hl
    simp only [wordLines, List.mem_cons, List.not_mem_nil, or_false] at hl
    rcases hl with rfl | rfl | rfl | rfl | rfl | rfl | rfl | rfl | rfl <;> first | decide | (rw [ByteArray.size_append]; show 0 < 5 + _; omega) | (rw [ByteArray.size_append]; show 0 < 8 + _; omega)
  exact absurd (hall _ hl) (by decide)
theorem truthB_size (b : Bool) : (truthB b).size ≤ 5 := by cases b <;> decide
theorem bytes_eq {a b : ByteArray} (h : a.data.toList = b.data.toList) : a = b := ByteArray.ext (Array.toList_inj.1 h)
theorem pa_is : readB ⟨#[80, 97]⟩ = some (.set 0) := Fm.read_iff.2 ⟨rfl, by decide⟩
theorem word_steps (w0 : World) (ht : Tab w0) (s f : ByteArray) (φ : Fm.T) (hw : wordB s = true) (hr : readB f = some φ) (h0 : Fm.free φ = 0) (C : List Nat)
    (HC : ∀ a : DS, a.n = (s.size : Int) → a.S = bitsOf (letB s) s.size → a.R = gridOf ltB s.size → RunOK w0 ⟨#[99, 108, 97, 115, 115, 101, 115, 32, 49]⟩ a a (numsB C)) :
    Steps w0 desk0 (wordLines s f) (wordAns (fmtS (bitsOf (letB s) s.size) (gridOf ltB s.size)) s (Fm.holds (wSt' s) φ (fun _ => 0)) (defTo (wSt' s) (.set 0) s.size) C) := by
  obtain ⟨h1, h8⟩ := word_size8 hw
  have hv : validB s.size (bitsOf (letB s) s.size) (gridOf ltB s.size) = true := valid_bits h1 h8 _ _
  obtain ⟨_, _, vS, vR, _, _⟩ := valid_is hv
  have hnn : s.size * s.size ≤ 64 := Nat.mul_le_mul h8 h8
  have hf : f.size ≤ 4000 := by
    have h := (Fm.read_iff (s := f.data.toList)).1 hr
    have : f.size = f.data.toList.length := by simp
    omega
  have hin1 : hin f (stOf s.size (bitsOf (letB s) s.size) (gridOf ltB s.size)) = (Fm.holds (wSt' s) φ (fun _ => 0), true) := by
    unfold hin; rw [hr]; simp only [h0, if_true]; rfl
  have e1 : (⟨#[119, 111, 114, 100, 32]⟩ : ByteArray) = ⟨#[119, 111, 114, 100]⟩ ++ ⟨#[32]⟩ := bytes_eq rfl
  have e2 : (⟨#[102, 111, 114, 109, 117, 108, 97, 32]⟩ : ByteArray) = ⟨#[102, 111, 114, 109, 117, 108, 97]⟩ ++ ⟨#[32]⟩ := bytes_eq rfl
  have e3 : (⟨#[102, 111, 114, 109, 117, 108, 97, 32, 80, 97]⟩ : ByteArray) = ⟨#[102, 111, 114, 109, 117, 108, 97]⟩ ++ ⟨#[32]⟩ ++ ⟨#[80, 97]⟩ := bytes_eq rfl
  unfold wordLines wordAns
  rw [e1, e2, e3]
  have R1 := run_word w0 desk0 s hw h8 hv
  have R2 := run_exchange w0 (desk0.left s.size (bitsOf (letB s) s.size) (gridOf ltB s.size)) 1 rfl (by show validB 1 ⟨#[48]⟩ ⟨#[48]⟩ = true; decide)
  have R3 := run_word w0 (desk0.left s.size (bitsOf (letB s) s.size) (gridOf ltB s.size)).swap s hw h8 hv
  obtain ⟨d3, hd3⟩ : ∃ d3, ((desk0.left s.size (bitsOf (letB s) s.size) (gridOf ltB s.size)).swap).left s.size (bitsOf (letB s) s.size) (gridOf ltB s.size) = d3 := ⟨_, rfl⟩
  have n3 : d3.n = (s.size : Int) := by rw [← hd3]; rfl
  have S3 : d3.S = bitsOf (letB s) s.size := by rw [← hd3]; rfl
  have Q3 : d3.R = gridOf ltB s.size := by rw [← hd3]; rfl
  have m3 : d3.m = (s.size : Int) := by rw [← hd3]; rfl
  have T3 : d3.T = bitsOf (letB s) s.size := by rw [← hd3]; rfl
  have U3 : d3.U = gridOf ltB s.size := by rw [← hd3]; rfl
  rw [hd3] at R3
  have R4 := run_tellword w0 d3 s s.size n3 (by rw [S3]; omega) (by rw [Q3]; omega) (by rw [S3, Q3]; exact word_of_word hw)
  have R5 := run_formula w0 f φ hr hf d3
  have R6 := run_holds w0 { d3 with f := f } s.size s.size _ _ n3 m3 (by show f.size ≤ _; omega) (by show validB _ d3.S d3.R = true; rw [S3, Q3]; exact hv) (by show validB _ d3.T d3.U = true; rw [T3, U3]; exact hv)
    (by show hin f (stOf _ d3.S d3.R) = _; rw [S3, Q3]; exact hin1) (by show hin f (stOf _ d3.T d3.U) = _; rw [T3, U3]; exact hin1)
  have R7 := run_formula w0 ⟨#[80, 97]⟩ (.set 0) pa_is (by decide) { d3 with f := f }
  have hds : defSet ⟨#[80, 97]⟩ d3.n d3.S d3.R = some (defTo (wSt' s) (.set 0) s.size) := by
    rw [defSet_some pa_is, n3, S3, Q3, if_pos ⟨hv, by decide⟩]
    rfl
  have R8 := run_set w0 ht { { d3 with f := f } with f := ⟨#[80, 97]⟩ } (defTo (wSt' s) (.set 0) s.size) (by show 2 ≤ _; omega) (by show d3.S.size ≤ _; rw [S3]; omega) (by show d3.R.size ≤ _; rw [Q3]; omega) hds
    (by have := defTo_length (wSt' s) (.set 0) s.size; omega) (fun x hx => by have := defTo_lt hx; omega)
  have R9 := HC { { d3 with f := f } with f := ⟨#[80, 97]⟩ } n3 S3 Q3
  exact ⟨_, R1, _, R2, _, R3, _, R4, _, R5, _, R6, _, R7, _, R8, _, R9, trivial⟩
end Go.Proofs.YtlkemhhkcanmoaaGreatDoor

namespace Go.Proofs.YtlkemhhkcanmoaaGreatDoor
open Go.RowKit
set_option linter.unusedVariables false
set_option maxRecDepth 100000
theorem digit_is {k : Nat} (hk : k ≤ 9) : Lib.itoa (k : Int) = [UInt8.ofNat (48 + k)] := by
  rcases (show k = 0 ∨ k = 1 ∨ k = 2 ∨ k = 3 ∨ k = 4 ∨ k = 5 ∨ k = 6 ∨ k = 7 ∨ k = 8 ∨ k = 9 by omega) with rfl | rfl | rfl | rfl | rfl | rfl | rfl | rfl | rfl | rfl <;> simp [Lib.itoa, Lib.decDigits]
theorem itoS_digit {k : Nat} (hk : k ≤ 9) : itoS (k : Int) = ⟨#[UInt8.ofNat (48 + k)]⟩ := by
  unfold itoS
  rw [digit_is hk]
theorem atoi_digit {k : Nat} (hk : k ≤ 9) : Lib.atoi (itoS (k : Int)).data.toList = some (k : Int) := by
  rw [itoS_digit hk]
  rcases (show k = 0 ∨ k = 1 ∨ k = 2 ∨ k = 3 ∨ k = 4 ∨ k = 5 ∨ k = 6 ∨ k = 7 ∨ k = 8 ∨ k = 9 by omega) with rfl | rfl | rfl | rfl | rfl | rfl | rfl | rfl | rfl | rfl <;> rfl
theorem trim_digit {k : Nat} (hk : k ≤ 9) : (⟨(Lib.trimPrefix (itoS (k : Int)).data.toList (⟨#[45]⟩ : ByteArray).data.toList).toArray⟩ : ByteArray) = itoS (k : Int) := by
  rw [itoS_digit hk]
  rcases (show k = 0 ∨ k = 1 ∨ k = 2 ∨ k = 3 ∨ k = 4 ∨ k = 5 ∨ k = 6 ∨ k = 7 ∨ k = 8 ∨ k = 9 by omega) with rfl | rfl | rfl | rfl | rfl | rfl | rfl | rfl | rfl | rfl <;> rfl
theorem bytesW_below (w : World) (e : TypeId) (s : ByteArray) : Below w.heap.size w (Lib.bytesWorld w e s) :=
  Lib.below_freeze ((Below.refl _ _).drew.alloc (Nat.le_refl _) _) (Nat.le_refl _) _
set_option maxHeartbeats 1000000 in
theorem numberOf_digit (k : Nat) (hk : k ≤ 9) (w : World) (ht : Tab w) :
    Calls Tryz.prog 116 #[.string (itoS (k : Int))] w fun e w' => e = .returned (.tuple #[.int .i64 (k : Int), .bool true]) ∧ Below w.heap.size w w' := by
  have hz : (itoS (k : Int)).size = 1 := by rw [itoS_digit hk]; rfl
  have HA : Hid (∀ w, Calls Tryz.prog 173 #[.string (itoS (k : Int))] w fun e w' => e = .returned (.tuple #[.int .i64 (k : Int), .nilIface]) ∧ Below w.heap.size w w') := fun w =>
    (Any.strconv_Atoi Tryz.lays172 (itoS (k : Int)) k (by omega) (atoi_digit hk) w).mono fun e w' ⟨he, t, hw⟩ => ⟨he, by rw [hw]; exact bytesW_below _ _ _⟩
  have HTP : Hid (∀ w, Calls Tryz.prog 174 #[.string (itoS (k : Int)), .string ⟨#[45]⟩] w fun e w' => e = .returned (.string (itoS (k : Int))) ∧ Below w.heap.size w w') := fun w =>
    (Any.strings_TrimPrefix Tryz.lays101 (itoS (k : Int)) ⟨#[45]⟩ w).mono fun e w' ⟨he, hw⟩ => ⟨by rw [he, trim_digit hk], by rw [hw]; exact Below.refl _ _⟩
  have HI := Lib.hid (fun w ht => itoa_any (k : Int) w (by omega) (by omega) ht)
  have HT := Lib.hid ht
  have hzI : ((itoS (k : Int)).size : Int) ≤ 17 := by omega
  clear hz ht
  generalize itoS (k : Int) = s at *
  have hss : (s.toList == s.toList) = true := by simp
  go_enter Tryz.func116, Tryz.ntmps116
  go_wp2_with fail
  refine (HA.out _).mono ?_; rintro e w1 ⟨rfl, hb⟩
  have HB1 := Lib.hid hb
  have HJ := Lib.hid (HI.out w1 (HT.out.below hb (Nat.le_refl _)))
  clear hb
  go_wp2_with fail
  refine HJ.out.mono ?_; rintro e w3 ⟨rfl, hb⟩
  have HB3 := Lib.hid (HB1.out.trans (hb.mono HB1.out.size))
  clear hb
  go_wp2_with fail
  refine (HTP.out _).mono ?_; rintro e w2 ⟨rfl, hb⟩
  have HB2 := Lib.hid (HB3.out.trans (hb.mono HB3.out.size))
  clear hb
  go_wp2_with fail
  go_ret2
  exact ⟨rfl, HB2.out⟩
end Go.Proofs.YtlkemhhkcanmoaaGreatDoor

namespace Go.Proofs.YtlkemhhkcanmoaaGreatDoor
open Go.RowKit
set_option linter.unusedVariables false
theorem text_is (s : ByteArray) (l : List UInt8) : s.toList = l ↔ s = ⟨l.toArray⟩ := by
  rw [ByteArray.toList_eq]
  constructor
  · intro h
    apply ByteArray.ext
    show s.data = l.toArray
    rw [← h]
  · intro h
    rw [h]
end Go.Proofs.YtlkemhhkcanmoaaGreatDoor

namespace Go.Proofs.YtlkemhhkcanmoaaGreatDoor
open Go.RowKit
set_option linter.unusedVariables false
set_option maxRecDepth 100000
/-- Texts, each once. -/
def hasB (out : List ByteArray) (f : ByteArray) : Bool := out.any fun g => decide (g = f)
end Go.Proofs.YtlkemhhkcanmoaaGreatDoor

namespace Go.Proofs.YtlkemhhkcanmoaaGreatDoor
open Go.RowKit
set_option linter.unusedVariables false
set_option maxRecDepth 100000
/-- A list that a call has built. -/
def ListO (L : List Nat) (w : World) (e : Ending) (w' : World) : Prop := ∃ v, e = .returned v ∧ Own w.heap.size w' v L ∧ Below w.heap.size w w'
theorem Own.monoN {B B' : Nat} {w : World} {v : Value} {L : List Nat} (h : Own B w v L) (hB : B' ≤ B) : Own B' w v L := by
  refine ⟨⟨h.own.1, ?_⟩, h.ne, Nat.le_trans hB h.low⟩
  rcases h.own.2 with hn | ⟨g, cap, cur, rfl, hb', rest⟩
  · exact .inl hn
  · exact .inr ⟨g, cap, cur, rfl, Nat.le_trans hB hb', rest⟩
end Go.Proofs.YtlkemhhkcanmoaaGreatDoor
