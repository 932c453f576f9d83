/- Contracts of the program's functions and what they compute: part 9. Conditions: those that each theorem states. -/
import Derived.Test.YtdonjgjkhndfcaaGreatDoorP52n2
import Derived.Test.YtdonjgjkhndfcaaGreatDoorP52n4
import Derived.Test.YtdonjgjkhndfcaaGreatDoorP52n7
import Derived.Test.YtdonjgjkhndfcaaGreatDoorP52n8
import Derived.Test.YtdonjgjkhndfcaaGreatDoorP52n1
import Derived.Deep.RegionLaw
import Derived.Deep.DeepCutAuto
import Derived.Deep.CutBlock
import Derived.Deep.AppendLies
import Derived.Lib.ItoaLen
import Derived.Lib.ItoaMem
import Derived.IntWalk
import Derived.Laws.IdiomStrings
import Derived.Test.YtdonjgjkhndfcaaGreatDoorShelf2
import Derived.Lib.AppendIntMem
import Derived.Lib.LaidTab
import Derived.Lib.Join
namespace Go.Proofs.YtdonjgjkhndfcaaGreatDoor
open Go.RowKit
set_option linter.unusedVariables false
set_option maxRecDepth 100000
/-- The text of a structure. -/
def fmtS (S R : ByteArray) : ByteArray := S ++ ⟨#[58]⟩ ++ R
theorem FormatStructure_any (n : Nat) (S R : ByteArray) (hv : validB n S R = true) (w : World) :
    Calls Tryz.prog 10 #[strV n S R] w fun e w' => e = .returned (.string (fmtS S R)) ∧ Below w.heap.size w w' := by
  obtain ⟨h1, h8, hS, hR, _, _⟩ := valid_is hv
  have hnn : n * n ≤ 64 := Nat.mul_le_mul h8 h8
  have HIS : Hid (∀ w, Calls Tryz.prog 22 #[strV n S R] w fun e w' => e = .returned (.bool true) ∧ Below w.heap.size w w') := fun w => by
    have := isStructure_any n S R w (by omega) (by rw [hR]; omega)
    rw [hv] at this
    exact this
  have HB : Hid (SBlk (boxS w n S R) w.heap.size n S R ∧ Below w.heap.size w (boxS w n S R)) := ⟨boxS_SBlk _ _ _ _, boxS_below _ _ _ _⟩
  unfold boxS at HB
  obtain ⟨s0, s1, s2, _, _, _, hl⟩ := HB.out.1.cells
  have h58 : (⟨#[58]⟩ : ByteArray).size = 1 := rfl
  have hSI : S.size ≤ 8 := by omega
  have hRI : R.size ≤ 64 := by omega
  have hz1 : (S ++ (⟨#[58]⟩ : ByteArray)).size ≤ 9 := by rw [ByteArray.size_append, h58]; omega
  clear hv hS hR
  unfold strV at HIS
  unfold strV
  go_enter Tryz.func10, Tryz.ntmps10
  go_wp2_with fail
  refine (HIS.out _).mono ?_; rintro e w1 ⟨rfl, hb⟩
  have HB1 : Hid (SBlk w1 w.heap.size n S R ∧ Below w.heap.size w w1) := ⟨HB.out.1.below hb HB.out.1.cells.2.2.2.2.2.2, HB.out.2.trans (hb.mono HB.out.2.size)⟩
  clear s0 s1 s2 hl hb HB
  obtain ⟨s0, s1, s2, _, _, _, hl⟩ := HB1.out.1.cells
  go_wp2_with fail
  go_ret
  exact ⟨rfl, HB1.out.2⟩
theorem DeskAt.cells {w : World} {d : Nat} {a : DS} (h : DeskAt w d a) : w.cell? ⟨d, 0, none⟩ = some (.int .i64 a.n) ∧ w.cell? ⟨d, 1, none⟩ = some (.string a.S) ∧ w.cell? ⟨d, 2, none⟩ = some (.string a.R) ∧ w.cell? ⟨d, 3, none⟩ = some (.int .i64 a.m) ∧ w.cell? ⟨d, 4, none⟩ = some (.string a.T) ∧ w.cell? ⟨d, 5, none⟩ = some (.string a.U) ∧ w.cell? ⟨d, 6, none⟩ = some (.string a.f) ∧ ∀ j, w.frozen? ⟨d, j, none⟩ = false := by
  have hb := h.blk
  refine ⟨?_, ?_, ?_, ?_, ?_, ?_, ?_, fun j => ?_⟩
  all_goals first | (unfold World.cell?; rw [hb]; rfl) | (unfold World.frozen?; rw [hb]; simp)
theorem DeskAt.setF {w : World} {d : Nat} {a : DS} (h : DeskAt w d a) (f : ByteArray) : DeskAt (w.setCell ⟨d, 6, none⟩ (.string f)) d { a with f := f } := ⟨by
  have hb := h.blk
  simp [World.setCell, Array.getElem?_modify, hb]⟩
theorem DeskAt.setA {w : World} {d : Nat} {a : DS} (h : DeskAt w d a) (n : Int) (S R : ByteArray) : DeskAt (((w.setCell ⟨d, 0, none⟩ (.int .i64 n)).setCell ⟨d, 1, none⟩ (.string S)).setCell ⟨d, 2, none⟩ (.string R)) d { a with n := n, S := S, R := R } := ⟨by
  have hb := h.blk
  simp [World.setCell, Array.getElem?_modify, hb]⟩
theorem off_setD3 {w : World} {d : Nat} {x y z : Value} : Off (fun b => b = d) w (((w.setCell ⟨d, 0, none⟩ x).setCell ⟨d, 1, none⟩ y).setCell ⟨d, 2, none⟩ z) :=
  ⟨rfl, rfl, rfl, by simp [World.setCell], fun k _ hk => by rw [Below.heap_setCell _ _ _ _ hk, Below.heap_setCell _ _ _ _ hk, Below.heap_setCell _ _ _ _ hk]⟩
set_option maxHeartbeats 1000000 in
/-- A structure becomes the left one. -/
theorem become_yes (n : Nat) (S R : ByteArray) (hv : validB n S R = true) (a : DS) (W : World) (d : Nat) (hD : DeskAt W d a) :
    Calls Tryz.prog 71 #[.pointer (some ⟨d, 0, none⟩), strV n S R, .bool true] W fun e w' => e = .returned (.string (fmtS S R)) ∧ DeskAt w' d { a with n := (n : Int), S := S, R := R } ∧ Off (fun x => x = d) W w' := by
  have HFS := Lib.hid (fun w => FormatStructure_any n S R hv w)
  have hb1 : Below W.heap.size W (boxS W n S R) := boxS_below _ _ _ _
  have HB : Hid (SBlk (boxS W n S R) W.heap.size n S R ∧ DeskAt (boxS W n S R) d a ∧ Off (fun x => x = d) W (boxS W n S R)) := ⟨boxS_SBlk _ _ _ _, hD.below hb1, Off.of_below hb1⟩
  have hdl := hD.lt
  obtain ⟨W1, hW1⟩ : ∃ W1, boxS W n S R = W1 := ⟨_, rfl⟩
  rw [hW1] at HB
  unfold boxS at hW1
  have HW := Lib.hid hW1
  clear hb1 hD hv hW1
  obtain ⟨s0, s1, s2, _, _, _, hl⟩ := HB.out.1.cells
  obtain ⟨c0, c1, c2, c3, c4, c5, c6, cf⟩ := HB.out.2.1.cells
  have f0 := cf 0
  have f1 := cf 1
  have f2 := cf 2
  have hne : W.heap.size ≠ d := by omega
  have hne2 : d ≠ W.heap.size := by omega
  clear cf
  have HD2 : Hid (DeskAt (((W1.setCell ⟨d, 0, none⟩ (.int .i64 (n : Int))).setCell ⟨d, 1, none⟩ (.string S)).setCell ⟨d, 2, none⟩ (.string R)) d { a with n := (n : Int), S := S, R := R } ∧ Off (fun x => x = d) W (((W1.setCell ⟨d, 0, none⟩ (.int .i64 (n : Int))).setCell ⟨d, 1, none⟩ (.string S)).setCell ⟨d, 2, none⟩ (.string R)) ∧ SBlk (((W1.setCell ⟨d, 0, none⟩ (.int .i64 (n : Int))).setCell ⟨d, 1, none⟩ (.string S)).setCell ⟨d, 2, none⟩ (.string R)) W.heap.size n S R) :=
    ⟨HB.out.2.1.setA n S R, HB.out.2.2.trans off_setD3 (fun _ h => .inl h), ((HB.out.1.far (by simp; omega) _).far (by simp; omega) _).far (by simp; omega) _⟩
  unfold strV at HFS
  unfold strV
  go_enter Tryz.func71, Tryz.ntmps71
  go_upto_region 1 with fail
  rw [HW.out]
  go_upto_region 4 with fail
  clear s0 s1 s2 hl c0 c1 c2 c3 c4 c5 c6 f0 f1 f2 HB HW
  generalize ((W1.setCell ⟨d, 0, none⟩ (.int .i64 (n : Int))).setCell ⟨d, 1, none⟩ (.string S)).setCell ⟨d, 2, none⟩ (.string R) = W2 at *
  obtain ⟨s0, s1, s2, _, _, _, hl⟩ := HD2.out.2.2.cells
  go_wp2_with fail
  refine (HFS.out _).mono ?_; rintro e w1 ⟨rfl, hb⟩
  have HD3 : Hid (DeskAt w1 d { a with n := (n : Int), S := S, R := R } ∧ Off (fun x => x = d) W w1) := ⟨HD2.out.1.below hb, HD2.out.2.1.trans (Off.of_below (F := fun _ => False) hb) (fun _ h => h.elim)⟩
  clear hb
  go_wp2_with fail
  go_ret
  exact ⟨rfl, HD3.out⟩
end Go.Proofs.YtdonjgjkhndfcaaGreatDoor

namespace Go.Proofs.YtdonjgjkhndfcaaGreatDoor
open Go.RowKit
set_option linter.unusedVariables false
set_option maxRecDepth 100000
/-- A word is answered by (*desk).told; nothing turns. -/
def ToldOK (w0 : World) (l : ByteArray) (a : DS) (o : ByteArray) : Prop := ∀ (W : World) (d : Nat), w0.heap.size ≤ d → Below w0.heap.size w0 W → DeskAt W d a →
  Calls Tryz.prog 106 #[.pointer (some ⟨d, 0, none⟩), .string l] W fun e w' => e = .returned (.string o) ∧ DeskAt w' d a ∧ Off (fun x => x = d) W w'
/-- A word is answered by (*desk).plain. -/
def PlainOK (w0 : World) (l : ByteArray) (a b : DS) (o : ByteArray) : Prop := ∀ (W : World) (d : Nat), w0.heap.size ≤ d → Below w0.heap.size w0 W → DeskAt W d a →
  Calls Tryz.prog 65 #[.pointer (some ⟨d, 0, none⟩), .string l] W fun e w' => e = .returned (.string o) ∧ DeskAt w' d b ∧ Off (fun x => x = d) W w'
/-- A line of one word is what (*desk).plain answers. -/
theorem run_plain (w0 : World) (l : ByteArray) (hl : (32 : UInt8) ∉ l.data.toList) (a b : DS) (s : ByteArray) (HP0 : PlainOK w0 l a b s) : RunOK w0 l a b s := by
  intro W d hd hB hD
  have HCU := Lib.hid (fun w => cut_word l hl w)
  have HP := Lib.hid (fun W hB hD => HP0 W d hd hB hD)
  have HD : Hid (DeskAt W d a ∧ Off (fun x => x = d) W W ∧ Below w0.heap.size w0 W) := ⟨hD, Off.of_below (Below.refl _ _), hB⟩
  clear hD hB HP0
  go_enter Tryz.func39, Tryz.ntmps39
  go_wp2_with fail
  refine (HCU.out _).mono ?_; rintro e w1 ⟨rfl, hb⟩
  have HD1 : Hid (DeskAt w1 d a ∧ Off (fun x => x = d) W w1 ∧ Below w0.heap.size w0 w1) := ⟨HD.out.1.below hb, Off.of_below hb, HD.out.2.2.trans (hb.mono HD.out.2.2.size)⟩
  clear hb HD
  go_wp2_with fail
  refine (HP.out _ HD1.out.2.2 HD1.out.1).mono ?_; rintro e w2 ⟨rfl, hd2, ho2⟩
  have HD2 : Hid (DeskAt w2 d b ∧ Off (fun x => x = d) W w2) := ⟨hd2, HD1.out.2.1.trans ho2 (fun _ h => .inl h)⟩
  clear hd2 ho2
  go_wp2_with fail
  go_ret
  exact ⟨rfl, HD2.out⟩
theorem plain_shape (w0 : World) (a : DS) (s : ByteArray) (HT0 : ToldOK w0 ⟨#[115, 104, 97, 112, 101]⟩ a s) : PlainOK w0 ⟨#[115, 104, 97, 112, 101]⟩ a a s := by
  intro W d hd hB hD
  have HT := Lib.hid (HT0 W d hd hB hD)
  clear hD hB HT0
  go_enter Tryz.func65, Tryz.ntmps65
  go_wp2_with fail
  refine HT.out.mono ?_; rintro e w2 ⟨rfl, hd2, ho2⟩
  have HD2 : Hid (DeskAt w2 d a ∧ Off (fun x => x = d) W w2) := ⟨hd2, ho2⟩
  clear hd2 ho2
  go_wp2_with fail
  go_ret
  exact ⟨rfl, HD2.out⟩
theorem plain_symmetries (w0 : World) (a : DS) (s : ByteArray) (HT0 : ToldOK w0 ⟨#[115, 121, 109, 109, 101, 116, 114, 105, 101, 115]⟩ a s) : PlainOK w0 ⟨#[115, 121, 109, 109, 101, 116, 114, 105, 101, 115]⟩ a a s := by
  intro W d hd hB hD
  have HT := Lib.hid (HT0 W d hd hB hD)
  clear hD hB HT0
  go_enter Tryz.func65, Tryz.ntmps65
  go_wp2_with fail
  refine HT.out.mono ?_; rintro e w2 ⟨rfl, hd2, ho2⟩
  have HD2 : Hid (DeskAt w2 d a ∧ Off (fun x => x = d) W w2) := ⟨hd2, ho2⟩
  clear hd2 ho2
  go_wp2_with fail
  go_ret
  exact ⟨rfl, HD2.out⟩
theorem plain_stable (w0 : World) (a : DS) (s : ByteArray) (HT0 : ToldOK w0 ⟨#[115, 116, 97, 98, 108, 101]⟩ a s) : PlainOK w0 ⟨#[115, 116, 97, 98, 108, 101]⟩ a a s := by
  intro W d hd hB hD
  have HT := Lib.hid (HT0 W d hd hB hD)
  clear hD hB HT0
  go_enter Tryz.func65, Tryz.ntmps65
  go_wp2_with fail
  refine HT.out.mono ?_; rintro e w2 ⟨rfl, hd2, ho2⟩
  have HD2 : Hid (DeskAt w2 d a ∧ Off (fun x => x = d) W w2) := ⟨hd2, ho2⟩
  clear hd2 ho2
  go_wp2_with fail
  go_ret
  exact ⟨rfl, HD2.out⟩
theorem plain_pieces (w0 : World) (a : DS) (s : ByteArray) (HT0 : ToldOK w0 ⟨#[112, 105, 101, 99, 101, 115]⟩ a s) : PlainOK w0 ⟨#[112, 105, 101, 99, 101, 115]⟩ a a s := by
  intro W d hd hB hD
  have HT := Lib.hid (HT0 W d hd hB hD)
  clear hD hB HT0
  go_enter Tryz.func65, Tryz.ntmps65
  go_wp2_with fail
  refine HT.out.mono ?_; rintro e w2 ⟨rfl, hd2, ho2⟩
  have HD2 : Hid (DeskAt w2 d a ∧ Off (fun x => x = d) W w2) := ⟨hd2, ho2⟩
  clear hd2 ho2
  go_wp2_with fail
  go_ret
  exact ⟨rfl, HD2.out⟩
end Go.Proofs.YtdonjgjkhndfcaaGreatDoor

namespace Go.Proofs.YtdonjgjkhndfcaaGreatDoor
open Go.RowKit
set_option linter.unusedVariables false
def itoS (n : Int) : ByteArray := ⟨(Lib.itoa n).toArray⟩
end Go.Proofs.YtdonjgjkhndfcaaGreatDoor

namespace Go.Proofs.YtdonjgjkhndfcaaGreatDoor
open Go.RowKit
set_option linter.unusedVariables false
/-- The table that strconv reads. -/
def Tab (w : World) : Prop := Lib.TabIs Tryz.prog w "internal/strconv.uint64pow10" .u64 Lib.pow10Tab
theorem Tab.lt {w : World} (h : Tab w) : 1 < w.heap.size := by
  have hgn : Tryz.prog.globalNamed "internal/strconv.uint64pow10" = some 1 := by kernel_rfl
  unfold Tab Lib.TabIs World.var? at h
  rw [hgn] at h
  simp only [Option.bind_some] at h
  rcases Nat.lt_or_ge 1 w.heap.size with h' | h'
  · exact h'
  · rw [Array.getElem?_eq_none h'] at h; cases h
theorem Tab.below {w w' : World} {B : Nat} (h : Tab w) (hb : Below B w w') (hB : w.heap.size ≤ B) : Tab w' := by
  have hlt := h.lt
  have hgn : Tryz.prog.globalNamed "internal/strconv.uint64pow10" = some 1 := by kernel_rfl
  unfold Tab Lib.TabIs World.var? at h ⊢
  rw [hgn] at h ⊢
  simp only [Option.bind_some] at h ⊢
  rw [hb.block 1 (by omega)]
  exact h
theorem joinExtra : Builder.Extra Tryz.prog Tryz.lays156_ren := {
  sizeBuilder := by kernel_rfl
  liesBuilder := by kernel_rfl
  t5 := Tryz.underlying5
  a5 := Tryz.isAgg5
  z5 := Tryz.sizeOf5
  v5 := Tryz.zeroValue5
  infoByte := by kernel_rfl
  cellsByte := by kernel_rfl
  sizeByte := by kernel_rfl
  neB5 := by decide }
theorem itoa_any (n : Int) (w : World) (h0 : -9223372036854775808 ≤ n) (h1 : n ≤ 9223372036854775807) (ht : Tab w) :
    Calls Tryz.prog 30 #[.int .i64 n] w fun e w' => e = .returned (.string (itoS n)) ∧ Below w.heap.size w w' :=
  (Any.strconv_Itoa Tryz.lays171 n h0 h1 w ht).mono fun e w' ⟨he, k, os, hw⟩ => ⟨he, hw ▸ Lib.below_grow _ w (Nat.le_refl _) k os⟩
/-- Numbers with blanks between them. -/
def fmtB (zs : List Int) : ByteArray := ⟨(Lib.join (zs.map Lib.itoa) [32]).toArray⟩
theorem itoS_size (n : Int) (h0 : -9223372036854775808 ≤ n) (h1 : n ≤ 9223372036854775807) : (itoS n).size ≤ 21 := by
  show (Lib.itoa n).toArray.size ≤ 21
  rw [List.size_toArray]
  exact Lib.itoa_length_le n h0 h1
def Fits (zs : List Int) : Prop := ∀ z ∈ zs, -9223372036854775808 ≤ z ∧ z ≤ 9223372036854775807
theorem lens_le (zs : List Int) (h : Fits zs) : Lib.lens (zs.map Lib.itoa) ≤ 21 * zs.length := by
  induction zs with
  | nil => simp [Lib.lens]
  | cons z zs ih =>
    have h1 := ih (fun y hy => h y (List.mem_cons_of_mem _ hy))
    have h2 := Lib.itoa_length_le z (h z (List.mem_cons_self ..)).1 (h z (List.mem_cons_self ..)).2
    simp only [Lib.lens, List.map_cons, List.sum_cons, List.length_cons] at h1 ⊢
    omega
theorem join_size (zs : List Int) (h : Fits zs) : (Lib.join (zs.map Lib.itoa) [32]).length ≤ 22 * zs.length := by
  cases zs with
  | nil => simp [Lib.join_nil]
  | cons z zs =>
    rw [List.map_cons, Lib.join_length, ← List.map_cons]
    have := lens_le (z :: zs) h
    simp only [List.length_cons, List.length_map, List.length_nil] at this ⊢
    omega
theorem implFmt_zero (a : Option Addr) (cap : Nat) (w : World) :
    Calls Tryz.prog 11 #[.slice a 0 cap] w fun e w' => e = .returned (.string ⟨#[45]⟩) ∧ Below w.heap.size w w' := by
  go_enter Tryz.func11, Tryz.ntmps11
  go_wp2_with fail
  go_ret
  exact ⟨rfl, Below.refl _ _⟩
set_option maxRecDepth 100000 in
theorem implFmt_any (g o cap : Nat) (zs : List Int) (w : World) (h0 : ¬ zs.length = 0) (hl : zs.length ≤ 1048576) (hf : Fits zs) (ht : Tab w) (hcap : zs.length ≤ cap) (hcm : cap ≤ maxLen) (hg : g < w.heap.size)
    (hc : ∀ j (h : j < zs.length), w.cell? ⟨g, o + j, none⟩ = some (.int .i64 zs[j])) :
    Calls Tryz.prog 11 #[.slice (some ⟨g, o, none⟩) zs.length cap] w fun e w' => e = .returned (.string (fmtB zs)) ∧ Below w.heap.size w w' := by
  have HC := Lib.hid hc
  have HF := Lib.hid hf
  have HT := Lib.hid ht
  clear hc hf ht
  obtain ⟨n, hn⟩ : ∃ n, zs.length = n := ⟨_, rfl⟩
  have HN := Lib.hid hn
  rw [hn] at h0 hl hcap
  rw [hn]
  clear hn
  have e1 : ((n : Int) == 0) = false := by simp; omega
  have HS0 := Lib.hid (Strs.lit0 w)
  go_enter Tryz.func11, Tryz.ntmps11
  go_wp2_with fail
  go_loopw [3, 5, 12] (fun v _ i wr => ∃ k : Nat, k ≤ n ∧ i = .int .i64 k ∧ Hid (Strs w wr v ((zs.take k).map itoS))) (fun _ _ i _ => n - (intOf i).toNat)
  case atStart => exact ⟨0, by omega, rfl, HS0.out⟩
  case round =>
    obtain ⟨k, hk, rfl, HS⟩ := hrel
    by_cases hlt : k < n
    · have hkl : k < zs.length := by rw [HN.out]; exact hlt
      obtain ⟨z, hz⟩ : ∃ z, zs[k] = z := ⟨_, rfl⟩
      have hck := (HS.out.old.cell (p := ⟨g, o + k, none⟩) hg).trans (HC.out k hkl)
      rw [hz] at hck
      have HZ : Hid (-9223372036854775808 ≤ z ∧ z ≤ 9223372036854775807) := HF.out z (by rw [← hz]; exact List.getElem_mem hkl)
      have HK : Hid ((zs.take (k + 1)).map itoS = (zs.take k).map itoS ++ [itoS z]) := by
        show _ = _
        rw [List.take_succ_eq_append_getElem hkl, List.map_append, hz]
        rfl
      have hll : ((zs.take k).map itoS).length ≤ 2000000 := by
        rw [List.length_map, List.length_take]; omega
      have HI := Lib.hid (fun w ht => itoa_any z w HZ.out.1 HZ.out.2 ht)
      have HTr : Hid (Tab wr) := HT.out.below HS.out.old (Nat.le_refl _)
      clear hz hkl
      generalize (zs.take k).map itoS = L at *
      generalize itoS z = s at *
      go_wp2_with fail
      refine (HI.out _ HTr.out).mono ?_; rintro e w1 ⟨rfl, hb⟩
      have HS1 := Lib.hid (HS.out.kept hb); clear hb
      go_wp2_with (first | (at_builtin; refine wpList_app1 HS1.out hll rfl (.tmp 16) (.tmp 19) rfl _ _ (by simp) rfl rfl ?_; intro v' w' hs'; have HS' := Lib.hid hs'; clear hs') | fail)
      go_roundw
      case rel =>
        refine ⟨k + 1, by omega, by go_num, ?_⟩
        rw [HK.out]
        exact HS'.out
      case measure => simp [intOf]; omega
    · have hkn : k = n := by omega
      have HSn : Hid (Strs w wr u3 (zs.map itoS)) := by
        have h := HS.out
        rw [hkn, ← HN.out, List.take_length] at h
        exact h
      have HJ : Hid ((⟨(Lib.join ((zs.map itoS).map (·.data.toList)) (⟨#[32]⟩ : ByteArray).data.toList).toArray⟩ : ByteArray) = fmtB zs) := by
        show _ = _
        unfold fmtB
        rw [List.map_map]
        rfl
      have hjl : (Lib.join ((zs.map itoS).map (·.data.toList)) (⟨#[32]⟩ : ByteArray).data.toList).length ≤ 140737488355328 := by
        have h1 := join_size zs HF.out
        have h2 : ((zs.map itoS).map (·.data.toList)) = zs.map Lib.itoa := by rw [List.map_map]; rfl
        rw [h2]
        have h3 := HN.out
        show (Lib.join (zs.map Lib.itoa) [32]).length ≤ _
        omega
      have hll : (zs.map itoS).length = n := by rw [List.length_map]; exact HN.out
      obtain ⟨gg, cp, rfl, hg1, hg2, hlc, hcm2, hcc⟩ := HSn.out.cells
      have hcon := Any.strings_Join Tryz.lays156 joinExtra gg 0 cp (zs.map itoS) ⟨#[32]⟩ wr (fun j x hj => by
        obtain ⟨h1, h2⟩ := List.getElem?_eq_some_iff.1 hj
        rw [Nat.zero_add, hcc j h1, h2]) hg2 (by omega) hlc hjl
      rw [HJ.out] at hcon
      have HJn := Lib.hid hcon
      clear hcon hjl hcc HJ
      have HO : Hid (Below w.heap.size w wr) := HSn.out.old
      clear HSn HS
      rw [hll] at *
      have hkn' := Lib.hid hkn; clear hkn
      have hlt' : ¬ (k : Int) < (n : Int) := by omega
      go_wp2_with fail
      refine HJn.out.mono ?_; rintro e w1 ⟨rfl, hb⟩
      have HB := Lib.hid (HO.out.trans (hb.mono HO.out.size)); clear hb
      go_wp2_with fail
      go_ret
      exact ⟨rfl, HB.out⟩
end Go.Proofs.YtdonjgjkhndfcaaGreatDoor
