/- Contracts of the program's functions and what they compute: part 20. Conditions: those that each theorem states. -/
import Derived.Test.YtihomcedaaiidaaGreatDoorP55n6
import Derived.Test.YtihomcedaaiidaaGreatDoorP55n12
import Derived.Test.YtihomcedaaiidaaGreatDoorP55n19
import Derived.Test.YtihomcedaaiidaaGreatDoorP55n1
import Derived.Test.YtihomcedaaiidaaGreatDoorP55n2
import Derived.Laws.IdiomStrings
import Derived.IntWalk
import Derived.Laws.EntriesVeiled
import Derived.Deep.RegionHeld3
import Derived.Deep.DeepCutAuto
import Derived.Lib.ItoaLen
import Derived.Lib.ItoaMem
import Derived.Test.YtihomcedaaiidaaGreatDoorShelf2
import Derived.Lib.AppendIntMem
import Derived.Lib.LaidTab
import Derived.Lib.Join
namespace Go.Proofs.YtihomcedaaiidaaGreatDoor
open Go.RowKit
set_option linter.unusedVariables false
set_option maxRecDepth 100000
def truthB (b : Bool) : ByteArray := if b then ⟨#[116, 114, 117, 101]⟩ else ⟨#[102, 97, 108, 115, 101]⟩
theorem formatBool0_any (b : Bool) (w : World) : Calls Tryz.prog 261 #[.bool b] w fun e w' => e = .returned (.string (truthB b)) ∧ Below w.heap.size w w' := by
  cases b
  all_goals
    go_enter Tryz.func261, Tryz.ntmps261
    go_wp2_with fail
    go_ret
    exact ⟨rfl, Below.refl _ _⟩
theorem formatBool_any (b : Bool) (w : World) : Calls Tryz.prog 220 #[.bool b] w fun e w' => e = .returned (.string (truthB b)) ∧ Below w.heap.size w w' := by
  have HF := Lib.hid (fun w => formatBool0_any b w)
  go_enter Tryz.func220, Tryz.ntmps220
  go_wp2_with fail
  refine (HF.out _).mono ?_; rintro e w1 ⟨rfl, hb⟩
  go_wp2_with fail
  go_ret
  exact ⟨rfl, hb⟩
theorem truth_any (b : Bool) (w : World) : Calls Tryz.prog 160 #[.bool b] w fun e w' => e = .returned (.string (truthB b)) ∧ Below w.heap.size w w' := by
  have HF := Lib.hid (fun w => formatBool_any b w)
  go_enter Tryz.func160, Tryz.ntmps160
  go_wp2_with fail
  refine (HF.out _).mono ?_; rintro e w1 ⟨rfl, hb⟩
  go_wp2_with fail
  go_ret
  exact ⟨rfl, hb⟩
end Go.Proofs.YtihomcedaaiidaaGreatDoor

namespace Go.Proofs.YtihomcedaaiidaaGreatDoor
open Go.RowKit
set_option linter.unusedVariables false
set_option maxRecDepth 100000
set_option maxHeartbeats 1000000 in
theorem told_holds (a : DS) (n m : Nat) (b1 b2 : Bool) (hn : a.n = (n : Int)) (hm : a.m = (m : Int)) (hf : a.f.size ≤ 9223372036854775807) (hv : validB n a.S a.R = true) (hu : validB m a.T a.U = true)
    (h1 : hin a.f (stOf n a.S a.R) = (b1, true)) (h2 : hin a.f (stOf m a.T a.U) = (b2, true)) (W : World) (d : Nat) (hD : DeskAt W d a) :
    Calls Tryz.prog 110 #[.pointer (some ⟨d, 0, none⟩), .string ⟨#[104, 111, 108, 100, 115]⟩] W fun e w' => e = .returned (.string (truthB b1 ++ ⟨#[32]⟩ ++ truthB b2)) ∧ DeskAt w' d a ∧ Off (fun x => x = d) W w' := by
  have H1 := Lib.hid (fun w => implHoldsIn_any a.f hf n a.S a.R hv w)
  have H2 := Lib.hid (fun w => implHoldsIn_any a.f hf m a.T a.U hu w)
  have T1 := Lib.hid (fun w => truth_any b1 w)
  have T2 := Lib.hid (fun w => truth_any b2 w)
  rw [h1, ← hn] at H1
  rw [h2, ← hm] at H2
  unfold strV at H1 H2
  have z1 : (truthB b1).size ≤ 5 := by cases b1 <;> decide
  have z2 : (truthB b2).size ≤ 5 := by cases b2 <;> decide
  have z3 : (truthB b1 ++ (⟨#[32]⟩ : ByteArray)).size ≤ 6 := by rw [ByteArray.size_append]; show (truthB b1).size + 1 ≤ 6; omega
  have HD := Lib.hid hD
  obtain ⟨c0, c1, c2, c3, c4, c5, c6, cf⟩ := hD.cells
  clear cf hD hn hm hf hv hu h1 h2
  generalize truthB b1 = t1 at *
  generalize truthB b2 = t2 at *
  generalize hb : a = b at HD ⊢
  have HE : Hid (∀ w, DeskAt w d b → DeskAt w d a) := fun w h => by rw [hb]; exact h
  obtain ⟨n1, S1, R1, m1, T1', U1, fo⟩ := a
  simp only at *
  clear hb
  have C0 := fun s => Since.cell c0 s
  have C1 := fun s => Since.cell c1 s
  have C2 := fun s => Since.cell c2 s
  have C3 := fun s => Since.cell c3 s
  have C4 := fun s => Since.cell c4 s
  have C5 := fun s => Since.cell c5 s
  have C6 := fun s => Since.cell c6 s
  go_enter Tryz.func110, Tryz.ntmps110
  go_upto_region 13 with fail
  refine wp_region_since (by kernel_rfl) (by kernel_rfl) ?_
  repeat (go_big_quiet_step (first | (with_reducible exact Since.call (H1.out _)) | (with_reducible exact Since.call (H2.out _)) | (with_reducible exact C0 _) | (with_reducible exact C1 _) | (with_reducible exact C2 _) | (with_reducible exact C3 _) | (with_reducible exact C4 _) | (with_reducible exact C5 _) | (with_reducible exact C6 _)))
  refine wpQuiet_nil ?_
  intro w1 hb
  have HD1 : Hid (DeskAt w1 d b ∧ Off (fun x => x = d) W w1) := ⟨HD.out.below hb, Off.of_below hb⟩
  clear hb HD c0 c1 c2 c3 c4 c5 c6 C0 C1 C2 C3 C4 C5 C6
  obtain ⟨c0, c1, c2, c3, c4, c5, c6, cf⟩ := (HE.out _ HD1.out.1).cells
  simp only at c0 c1 c2 c3 c4 c5 c6
  clear cf
  have C0 := fun s => Since.cell c0 s
  have C1 := fun s => Since.cell c1 s
  have C2 := fun s => Since.cell c2 s
  have C3 := fun s => Since.cell c3 s
  have C4 := fun s => Since.cell c4 s
  have C5 := fun s => Since.cell c5 s
  have C6 := fun s => Since.cell c6 s
  go_upto_region 14 with fail
  refine wp_region_since (by kernel_rfl) (by kernel_rfl) ?_
  repeat (go_big_quiet_step (first | (with_reducible exact Since.call (H1.out _)) | (with_reducible exact Since.call (H2.out _)) | (with_reducible exact C0 _) | (with_reducible exact C1 _) | (with_reducible exact C2 _) | (with_reducible exact C3 _) | (with_reducible exact C4 _) | (with_reducible exact C5 _) | (with_reducible exact C6 _)))
  refine wpQuiet_nil ?_
  intro w1' hb
  have HD1' : Hid (DeskAt w1' d b ∧ Off (fun x => x = d) W w1') := ⟨HD1.out.1.below hb, HD1.out.2.trans (Off.of_below (F := fun _ => False) hb) (fun _ h => h.elim)⟩
  clear hb HD1 c0 c1 c2 c3 c4 c5 c6 C0 C1 C2 C3 C4 C5 C6
  have HD1 := HD1'
  clear HD1'
  go_wp2_with fail
  refine (T1.out _).mono ?_; rintro e w2 ⟨rfl, hb⟩
  have HD2 : Hid (DeskAt w2 d b ∧ Off (fun x => x = d) W w2) := ⟨HD1.out.1.below hb, HD1.out.2.trans (Off.of_below (F := fun _ => False) hb) (fun _ h => h.elim)⟩
  clear hb HD1
  go_wp2_with fail
  refine (T2.out _).mono ?_; rintro e w3 ⟨rfl, hb⟩
  have HD3 : Hid (DeskAt w3 d b ∧ Off (fun x => x = d) W w3) := ⟨HD2.out.1.below hb, HD2.out.2.trans (Off.of_below (F := fun _ => False) hb) (fun _ h => h.elim)⟩
  clear hb HD2
  go_wp2_with fail
  go_ret
  exact ⟨rfl, HD3.out⟩
end Go.Proofs.YtihomcedaaiidaaGreatDoor

namespace Go.Proofs.YtihomcedaaiidaaGreatDoor
open Go.RowKit
set_option linter.unusedVariables false
set_option maxRecDepth 100000
/-- A word is answered by (*desk).told; nothing turns. -/
def ToldOK (w0 : World) (l : ByteArray) (a : DS) (o : ByteArray) : Prop := ∀ (W : World) (d : Nat), w0.heap.size ≤ d → Below w0.heap.size w0 W → DeskAt W d a →
  Calls Tryz.prog 110 #[.pointer (some ⟨d, 0, none⟩), .string l] W fun e w' => e = .returned (.string o) ∧ DeskAt w' d a ∧ Off (fun x => x = d) W w'
/-- A word is answered by (*desk).plain. -/
def PlainOK (w0 : World) (l : ByteArray) (a b : DS) (o : ByteArray) : Prop := ∀ (W : World) (d : Nat), w0.heap.size ≤ d → Below w0.heap.size w0 W → DeskAt W d a →
  Calls Tryz.prog 70 #[.pointer (some ⟨d, 0, none⟩), .string l] W fun e w' => e = .returned (.string o) ∧ DeskAt w' d b ∧ Off (fun x => x = d) W w'
/-- A line of one word is what (*desk).plain answers. -/
theorem run_plain (w0 : World) (l : ByteArray) (hl : (32 : UInt8) ∉ l.data.toList) (a b : DS) (s : ByteArray) (HP0 : PlainOK w0 l a b s) : RunOK w0 l a b s := by
  intro W d hd hB hD
  have HCU := Lib.hid (fun w => cut_word l hl w)
  have HP := Lib.hid (fun W hB hD => HP0 W d hd hB hD)
  have HD : Hid (DeskAt W d a ∧ Off (fun x => x = d) W W ∧ Below w0.heap.size w0 W) := ⟨hD, Off.of_below (Below.refl _ _), hB⟩
  clear hD hB HP0
  go_enter Tryz.func42, Tryz.ntmps42
  go_wp2_with fail
  refine (HCU.out _).mono ?_; rintro e w1 ⟨rfl, hb⟩
  have HD1 : Hid (DeskAt w1 d a ∧ Off (fun x => x = d) W w1 ∧ Below w0.heap.size w0 w1) := ⟨HD.out.1.below hb, Off.of_below hb, HD.out.2.2.trans (hb.mono HD.out.2.2.size)⟩
  clear hb HD
  go_wp2_with fail
  refine (HP.out _ HD1.out.2.2 HD1.out.1).mono ?_; rintro e w2 ⟨rfl, hd2, ho2⟩
  have HD2 : Hid (DeskAt w2 d b ∧ Off (fun x => x = d) W w2) := ⟨hd2, HD1.out.2.1.trans ho2 (fun _ h => .inl h)⟩
  clear hd2 ho2
  go_wp2_with fail
  go_ret
  exact ⟨rfl, HD2.out⟩
theorem plain_show (w0 : World) (a : DS) (s : ByteArray) (HT0 : ToldOK w0 ⟨#[115, 104, 111, 119]⟩ a s) : PlainOK w0 ⟨#[115, 104, 111, 119]⟩ a a s := by
  intro W d hd hB hD
  have HT := Lib.hid (HT0 W d hd hB hD)
  clear hD hB HT0
  go_enter Tryz.func70, Tryz.ntmps70
  go_wp2_with fail
  refine HT.out.mono ?_; rintro e w2 ⟨rfl, hd2, ho2⟩
  have HD2 : Hid (DeskAt w2 d a ∧ Off (fun x => x = d) W w2) := ⟨hd2, ho2⟩
  clear hd2 ho2
  go_wp2_with fail
  go_ret
  exact ⟨rfl, HD2.out⟩
theorem plain_rank (w0 : World) (a : DS) (s : ByteArray) (HT0 : ToldOK w0 ⟨#[114, 97, 110, 107]⟩ a s) : PlainOK w0 ⟨#[114, 97, 110, 107]⟩ a a s := by
  intro W d hd hB hD
  have HT := Lib.hid (HT0 W d hd hB hD)
  clear hD hB HT0
  go_enter Tryz.func70, Tryz.ntmps70
  go_wp2_with fail
  refine HT.out.mono ?_; rintro e w2 ⟨rfl, hd2, ho2⟩
  have HD2 : Hid (DeskAt w2 d a ∧ Off (fun x => x = d) W w2) := ⟨hd2, ho2⟩
  clear hd2 ho2
  go_wp2_with fail
  go_ret
  exact ⟨rfl, HD2.out⟩
theorem plain_holds (w0 : World) (a : DS) (s : ByteArray) (HT0 : ToldOK w0 ⟨#[104, 111, 108, 100, 115]⟩ a s) : PlainOK w0 ⟨#[104, 111, 108, 100, 115]⟩ a a s := by
  intro W d hd hB hD
  have HT := Lib.hid (HT0 W d hd hB hD)
  clear hD hB HT0
  go_enter Tryz.func70, Tryz.ntmps70
  go_wp2_with fail
  refine HT.out.mono ?_; rintro e w2 ⟨rfl, hd2, ho2⟩
  have HD2 : Hid (DeskAt w2 d a ∧ Off (fun x => x = d) W w2) := ⟨hd2, ho2⟩
  clear hd2 ho2
  go_wp2_with fail
  go_ret
  exact ⟨rfl, HD2.out⟩
end Go.Proofs.YtihomcedaaiidaaGreatDoor

namespace Go.Proofs.YtihomcedaaiidaaGreatDoor
open Go.RowKit
set_option linter.unusedVariables false
set_option maxRecDepth 100000
section
variable {w w5 wr w' w3 : World} {F : Nat → Prop} {hb kb n : Nat} {S R : ByteArray} {φ : Fm.T} {p : Nat} {v v' : Value} {L L' : List Nat}
theorem Base.far {G H : Nat → Prop} (h : Base F G wr hb kb n S R) (hw : Off H wr w') (hF : ∀ b, F b → ¬ H b) (hG : ∀ b, G b → ¬ H b) : Base F G w' hb kb n S R :=
  ⟨(hw.block hb h.hold.cells.2.2.2.2 (hF _ h.foot)).trans h.hold, h.foot, h.memo.off hw hF hG, h.hS, h.hR, h.n1, h.n8⟩
end
end Go.Proofs.YtihomcedaaiidaaGreatDoor

namespace Go.Proofs.YtihomcedaaiidaaGreatDoor
open Go.RowKit
set_option linter.unusedVariables false
def itoS (n : Int) : ByteArray := ⟨(Lib.itoa n).toArray⟩
end Go.Proofs.YtihomcedaaiidaaGreatDoor

namespace Go.Proofs.YtihomcedaaiidaaGreatDoor
open Go.RowKit
set_option linter.unusedVariables false
/-- The table that strconv reads. -/
def Tab (w : World) : Prop := Lib.TabIs Tryz.prog w "internal/strconv.uint64pow10" .u64 Lib.pow10Tab
theorem Tab.lt {w : World} (h : Tab w) : 1 < w.heap.size := by
  have hgn : Tryz.prog.globalNamed "internal/strconv.uint64pow10" = some 1 := by kernel_rfl
  unfold Tab Lib.TabIs World.var? at h
  rw [hgn] at h
  simp only [Option.bind_some] at h
  rcases Nat.lt_or_ge 1 w.heap.size with h' | h'
  · exact h'
  · rw [Array.getElem?_eq_none h'] at h; cases h
theorem Tab.below {w w' : World} {B : Nat} (h : Tab w) (hb : Below B w w') (hB : w.heap.size ≤ B) : Tab w' := by
  have hlt := h.lt
  have hgn : Tryz.prog.globalNamed "internal/strconv.uint64pow10" = some 1 := by kernel_rfl
  unfold Tab Lib.TabIs World.var? at h ⊢
  rw [hgn] at h ⊢
  simp only [Option.bind_some] at h ⊢
  rw [hb.block 1 (by omega)]
  exact h
theorem joinExtra : Builder.Extra Tryz.prog Tryz.lays156_ren := {
  sizeBuilder := by kernel_rfl
  liesBuilder := by kernel_rfl
  t5 := Tryz.underlying5
  a5 := Tryz.isAgg5
  z5 := Tryz.sizeOf5
  v5 := Tryz.zeroValue5
  infoByte := by kernel_rfl
  cellsByte := by kernel_rfl
  sizeByte := by kernel_rfl
  neB5 := by decide }
theorem itoa_any (n : Int) (w : World) (h0 : -9223372036854775808 ≤ n) (h1 : n ≤ 9223372036854775807) (ht : Tab w) :
    Calls Tryz.prog 37 #[.int .i64 n] w fun e w' => e = .returned (.string (itoS n)) ∧ Below w.heap.size w w' :=
  (Any.strconv_Itoa Tryz.lays171 n h0 h1 w ht).mono fun e w' ⟨he, k, os, hw⟩ => ⟨he, hw ▸ Lib.below_grow _ w (Nat.le_refl _) k os⟩
/-- Numbers with blanks between them. -/
def fmtB (zs : List Int) : ByteArray := ⟨(Lib.join (zs.map Lib.itoa) [32]).toArray⟩
theorem itoS_size (n : Int) (h0 : -9223372036854775808 ≤ n) (h1 : n ≤ 9223372036854775807) : (itoS n).size ≤ 21 := by
  show (Lib.itoa n).toArray.size ≤ 21
  rw [List.size_toArray]
  exact Lib.itoa_length_le n h0 h1
def Fits (zs : List Int) : Prop := ∀ z ∈ zs, -9223372036854775808 ≤ z ∧ z ≤ 9223372036854775807
theorem lens_le (zs : List Int) (h : Fits zs) : Lib.lens (zs.map Lib.itoa) ≤ 21 * zs.length := by
  induction zs with
  | nil => simp [Lib.lens]
  | cons z zs ih =>
    have h1 := ih (fun y hy => h y (List.mem_cons_of_mem _ hy))
    have h2 := Lib.itoa_length_le z (h z (List.mem_cons_self ..)).1 (h z (List.mem_cons_self ..)).2
    simp only [Lib.lens, List.map_cons, List.sum_cons, List.length_cons] at h1 ⊢
    omega
theorem join_size (zs : List Int) (h : Fits zs) : (Lib.join (zs.map Lib.itoa) [32]).length ≤ 22 * zs.length := by
  cases zs with
  | nil => simp [Lib.join_nil]
  | cons z zs =>
    rw [List.map_cons, Lib.join_length, ← List.map_cons]
    have := lens_le (z :: zs) h
    simp only [List.length_cons, List.length_map, List.length_nil] at this ⊢
    omega
theorem implFmt_zero (a : Option Addr) (cap : Nat) (w : World) :
    Calls Tryz.prog 12 #[.slice a 0 cap] w fun e w' => e = .returned (.string ⟨#[45]⟩) ∧ Below w.heap.size w w' := by
  go_enter Tryz.func12, Tryz.ntmps12
  go_wp2_with fail
  go_ret
  exact ⟨rfl, Below.refl _ _⟩
set_option maxRecDepth 100000 in
theorem implFmt_any (g o cap : Nat) (zs : List Int) (w : World) (h0 : ¬ zs.length = 0) (hl : zs.length ≤ 1048576) (hf : Fits zs) (ht : Tab w) (hcap : zs.length ≤ cap) (hcm : cap ≤ maxLen) (hg : g < w.heap.size)
    (hc : ∀ j (h : j < zs.length), w.cell? ⟨g, o + j, none⟩ = some (.int .i64 zs[j])) :
    Calls Tryz.prog 12 #[.slice (some ⟨g, o, none⟩) zs.length cap] w fun e w' => e = .returned (.string (fmtB zs)) ∧ Below w.heap.size w w' := by
  have HC := Lib.hid hc
  have HF := Lib.hid hf
  have HT := Lib.hid ht
  clear hc hf ht
  obtain ⟨n, hn⟩ : ∃ n, zs.length = n := ⟨_, rfl⟩
  have HN := Lib.hid hn
  rw [hn] at h0 hl hcap
  rw [hn]
  clear hn
  have e1 : ((n : Int) == 0) = false := by simp; omega
  have HS0 := Lib.hid (Strs.lit0 w)
  go_enter Tryz.func12, Tryz.ntmps12
  go_wp2_with fail
  go_loopw [3, 5, 12] (fun v _ i wr => ∃ k : Nat, k ≤ n ∧ i = .int .i64 k ∧ Hid (Strs w wr v ((zs.take k).map itoS))) (fun _ _ i _ => n - (intOf i).toNat)
  case atStart => exact ⟨0, by omega, rfl, HS0.out⟩
  case round =>
    obtain ⟨k, hk, rfl, HS⟩ := hrel
    by_cases hlt : k < n
    · have hkl : k < zs.length := by rw [HN.out]; exact hlt
      obtain ⟨z, hz⟩ : ∃ z, zs[k] = z := ⟨_, rfl⟩
      have hck := (HS.out.old.cell (p := ⟨g, o + k, none⟩) hg).trans (HC.out k hkl)
      rw [hz] at hck
      have HZ : Hid (-9223372036854775808 ≤ z ∧ z ≤ 9223372036854775807) := HF.out z (by rw [← hz]; exact List.getElem_mem hkl)
      have HK : Hid ((zs.take (k + 1)).map itoS = (zs.take k).map itoS ++ [itoS z]) := by
        show _ = _
        rw [List.take_succ_eq_append_getElem hkl, List.map_append, hz]
        rfl
      have hll : ((zs.take k).map itoS).length ≤ 2000000 := by
        rw [List.length_map, List.length_take]; omega
      have HI := Lib.hid (fun w ht => itoa_any z w HZ.out.1 HZ.out.2 ht)
      have HTr : Hid (Tab wr) := HT.out.below HS.out.old (Nat.le_refl _)
      clear hz hkl
      generalize (zs.take k).map itoS = L at *
      generalize itoS z = s at *
      go_wp2_with fail
      refine (HI.out _ HTr.out).mono ?_; rintro e w1 ⟨rfl, hb⟩
      have HS1 := Lib.hid (HS.out.kept hb); clear hb
      go_wp2_with (first | (at_builtin; refine wpList_app1 HS1.out hll rfl (.tmp 16) (.tmp 19) rfl _ _ (by simp) rfl rfl ?_; intro v' w' hs'; have HS' := Lib.hid hs'; clear hs') | fail)
      go_roundw
      case rel =>
        refine ⟨k + 1, by omega, by go_num, ?_⟩
        rw [HK.out]
        exact HS'.out
      case measure => simp [intOf]; omega
    · have hkn : k = n := by omega
      have HSn : Hid (Strs w wr u3 (zs.map itoS)) := by
        have h := HS.out
        rw [hkn, ← HN.out, List.take_length] at h
        exact h
      have HJ : Hid ((⟨(Lib.join ((zs.map itoS).map (·.data.toList)) (⟨#[32]⟩ : ByteArray).data.toList).toArray⟩ : ByteArray) = fmtB zs) := by
        show _ = _
        unfold fmtB
        rw [List.map_map]
        rfl
      have hjl : (Lib.join ((zs.map itoS).map (·.data.toList)) (⟨#[32]⟩ : ByteArray).data.toList).length ≤ 140737488355328 := by
        have h1 := join_size zs HF.out
        have h2 : ((zs.map itoS).map (·.data.toList)) = zs.map Lib.itoa := by rw [List.map_map]; rfl
        rw [h2]
        have h3 := HN.out
        show (Lib.join (zs.map Lib.itoa) [32]).length ≤ _
        omega
      have hll : (zs.map itoS).length = n := by rw [List.length_map]; exact HN.out
      obtain ⟨gg, cp, rfl, hg1, hg2, hlc, hcm2, hcc⟩ := HSn.out.cells
      have hcon := Any.strings_Join Tryz.lays156 joinExtra gg 0 cp (zs.map itoS) ⟨#[32]⟩ wr (fun j x hj => by
        obtain ⟨h1, h2⟩ := List.getElem?_eq_some_iff.1 hj
        rw [Nat.zero_add, hcc j h1, h2]) hg2 (by omega) hlc hjl
      rw [HJ.out] at hcon
      have HJn := Lib.hid hcon
      clear hcon hjl hcc HJ
      have HO : Hid (Below w.heap.size w wr) := HSn.out.old
      clear HSn HS
      rw [hll] at *
      have hkn' := Lib.hid hkn; clear hkn
      have hlt' : ¬ (k : Int) < (n : Int) := by omega
      go_wp2_with fail
      refine HJn.out.mono ?_; rintro e w1 ⟨rfl, hb⟩
      have HB := Lib.hid (HO.out.trans (hb.mono HO.out.size)); clear hb
      go_wp2_with fail
      go_ret
      exact ⟨rfl, HB.out⟩
end Go.Proofs.YtihomcedaaiidaaGreatDoor

namespace Go.Proofs.YtihomcedaaiidaaGreatDoor
open Go.RowKit
set_option linter.unusedVariables false
theorem fmtB_one (z : Int) : fmtB [z] = itoS z := by
  unfold fmtB itoS
  rw [List.map_cons, List.map_nil, Lib.join_one]
theorem fmtB_snoc (zs : List Int) (z : Int) (h : ¬ zs.length = 0) : fmtB (zs ++ [z]) = fmtB zs ++ ⟨#[32]⟩ ++ itoS z := by
  cases zs with
  | nil => exact absurd rfl h
  | cons y r =>
    apply ByteArray.ext
    rw [ByteArray.data_append, ByteArray.data_append]
    show (Lib.join ((y :: r ++ [z]).map Lib.itoa) [32]).toArray = (Lib.join ((y :: r).map Lib.itoa) [32]).toArray ++ #[32] ++ (Lib.itoa z).toArray
    rw [List.cons_append, List.map_cons, List.map_cons, Lib.join_cons, Lib.join_cons, List.map_append]
    simp [Lib.joinTail]
theorem fmtB_size (zs : List Int) (h : Fits zs) : (fmtB zs).size ≤ 22 * zs.length := by
  show (Lib.join (zs.map Lib.itoa) [32]).toArray.size ≤ _
  rw [List.size_toArray]
  exact join_size zs h
/-- What FormatNumbers returns. -/
def fmtRes (zs : List Int) : ByteArray := if zs.length = 0 then ⟨#[45]⟩ else fmtB zs
end Go.Proofs.YtihomcedaaiidaaGreatDoor

namespace Go.Proofs.YtihomcedaaiidaaGreatDoor
open Go.RowKit
set_option linter.unusedVariables false
/-- The text of natural numbers. -/
def numsB (L : List Nat) : ByteArray := fmtRes (L.map fun n : Nat => (n : Int))
theorem numsB_size (L : List Nat) (hb : ∀ x ∈ L, x ≤ 1000000) : (numsB L).size ≤ 22 * L.length + 1 := by
  unfold numsB fmtRes
  split
  · show 1 ≤ _; omega
  · have h := fmtB_size (L.map fun n : Nat => (n : Int)) (by
      intro z hz
      obtain ⟨x, hx, rfl⟩ := List.mem_map.1 hz
      have := hb x hx
      omega)
    rw [List.length_map] at h
    omega
theorem implFmt_nums (v : Value) (L : List Nat) (w : World) (hv : NumsAt w v L) (hl : L.length ≤ 100) (hb : ∀ x ∈ L, x ≤ 1000000) (ht : Tab w) :
    Calls Tryz.prog 12 #[v] w fun e w' => e = .returned (.string (numsB L)) ∧ Below w.heap.size w w' := by
  obtain ⟨a, cap, rfl, l1, l2, l3⟩ := hv.view
  unfold numsB fmtRes
  by_cases h0 : L.length = 0
  · rw [if_pos (by simpa using h0), h0]
    exact implFmt_zero _ _ w
  · obtain ⟨g, o, rfl, hg, hc⟩ := l3 (by omega)
    have hlm : (L.map fun n : Nat => (n : Int)).length = L.length := List.length_map ..
    rw [if_neg (by rw [hlm]; exact h0)]
    have := implFmt_any g o cap (L.map fun n : Nat => (n : Int)) w (by rw [hlm]; exact h0) (by omega) (by
      intro z hz
      obtain ⟨x, hx, rfl⟩ := List.mem_map.1 hz
      have := hb x hx
      omega) ht (by omega) l2 hg (fun j hj => by
      have hj' : j < L.length := by omega
      rw [hc j hj']
      simp [List.getD_eq_getElem?_getD, hj'])
    rw [hlm] at this
    exact this
end Go.Proofs.YtihomcedaaiidaaGreatDoor

namespace Go.Proofs.YtihomcedaaiidaaGreatDoor
open Go.RowKit
set_option linter.unusedVariables false
set_option maxRecDepth 100000
/-- The line "holds". -/
theorem run_holds (w0 : World) (a : DS) (n m : Nat) (b1 b2 : Bool) (hn : a.n = (n : Int)) (hm : a.m = (m : Int)) (hf : a.f.size ≤ 9223372036854775807) (hv : validB n a.S a.R = true) (hu : validB m a.T a.U = true)
    (h1 : hin a.f (stOf n a.S a.R) = (b1, true)) (h2 : hin a.f (stOf m a.T a.U) = (b2, true)) : RunOK w0 ⟨#[104, 111, 108, 100, 115]⟩ a a (truthB b1 ++ ⟨#[32]⟩ ++ truthB b2) :=
  run_plain w0 _ (by decide) a a _ (plain_holds w0 a _ (fun W d _ _ hD => told_holds a n m b1 b2 hn hm hf hv hu h1 h2 W d hD))
end Go.Proofs.YtihomcedaaiidaaGreatDoor
