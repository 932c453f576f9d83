/- Contracts of the program's functions and what they compute: part 36. Conditions: those that each theorem states. -/
import Derived.Test.YtlkemhhkcanmoaaGreatDoorP54n1
import Derived.Test.YtlkemhhkcanmoaaGreatDoorP54n3
import Derived.Lib.ItoaLen
import Derived.Lib.ItoaMem
import Derived.IntWalk
import Derived.Laws.IdiomStrings
import Derived.Test.YtlkemhhkcanmoaaGreatDoorShelf2
import Derived.Lib.AppendIntMem
import Derived.Lib.LaidTab
import Derived.Lib.Join
namespace Go.Proofs.YtlkemhhkcanmoaaGreatDoor
open Go.RowKit
set_option linter.unusedVariables false
def itoS (n : Int) : ByteArray := ⟨(Lib.itoa n).toArray⟩
end Go.Proofs.YtlkemhhkcanmoaaGreatDoor

namespace Go.Proofs.YtlkemhhkcanmoaaGreatDoor
open Go.RowKit
set_option linter.unusedVariables false
/-- The table that strconv reads. -/
def Tab (w : World) : Prop := Lib.TabIs Tryz.prog w "internal/strconv.uint64pow10" .u64 Lib.pow10Tab
theorem Tab.lt {w : World} (h : Tab w) : 1 < w.heap.size := by
  have hgn : Tryz.prog.globalNamed "internal/strconv.uint64pow10" = some 1 := by kernel_rfl
  unfold Tab Lib.TabIs World.var? at h
  rw [hgn] at h
  simp only [Option.bind_some] at h
  rcases Nat.lt_or_ge 1 w.heap.size with h' | h'
  · exact h'
  · rw [Array.getElem?_eq_none h'] at h; cases h
theorem Tab.below {w w' : World} {B : Nat} (h : Tab w) (hb : Below B w w') (hB : w.heap.size ≤ B) : Tab w' := by
  have hlt := h.lt
  have hgn : Tryz.prog.globalNamed "internal/strconv.uint64pow10" = some 1 := by kernel_rfl
  unfold Tab Lib.TabIs World.var? at h ⊢
  rw [hgn] at h ⊢
  simp only [Option.bind_some] at h ⊢
  rw [hb.block 1 (by omega)]
  exact h
theorem joinExtra : Builder.Extra Tryz.prog Tryz.lays156_ren := {
  sizeBuilder := by kernel_rfl
  liesBuilder := by kernel_rfl
  t5 := Tryz.underlying5
  a5 := Tryz.isAgg5
  z5 := Tryz.sizeOf5
  v5 := Tryz.zeroValue5
  infoByte := by kernel_rfl
  cellsByte := by kernel_rfl
  sizeByte := by kernel_rfl
  neB5 := by decide }
theorem itoa_any (n : Int) (w : World) (h0 : -9223372036854775808 ≤ n) (h1 : n ≤ 9223372036854775807) (ht : Tab w) :
    Calls Tryz.prog 30 #[.int .i64 n] w fun e w' => e = .returned (.string (itoS n)) ∧ Below w.heap.size w w' :=
  (Any.strconv_Itoa Tryz.lays171 n h0 h1 w ht).mono fun e w' ⟨he, k, os, hw⟩ => ⟨he, hw ▸ Lib.below_grow _ w (Nat.le_refl _) k os⟩
/-- Numbers with blanks between them. -/
def fmtB (zs : List Int) : ByteArray := ⟨(Lib.join (zs.map Lib.itoa) [32]).toArray⟩
def Fits (zs : List Int) : Prop := ∀ z ∈ zs, -9223372036854775808 ≤ z ∧ z ≤ 9223372036854775807
theorem lens_le (zs : List Int) (h : Fits zs) : Lib.lens (zs.map Lib.itoa) ≤ 21 * zs.length := by
  induction zs with
  | nil => simp [Lib.lens]
  | cons z zs ih =>
    have h1 := ih (fun y hy => h y (List.mem_cons_of_mem _ hy))
    have h2 := Lib.itoa_length_le z (h z (List.mem_cons_self ..)).1 (h z (List.mem_cons_self ..)).2
    simp only [Lib.lens, List.map_cons, List.sum_cons, List.length_cons] at h1 ⊢
    omega
theorem join_size (zs : List Int) (h : Fits zs) : (Lib.join (zs.map Lib.itoa) [32]).length ≤ 22 * zs.length := by
  cases zs with
  | nil => simp [Lib.join_nil]
  | cons z zs =>
    rw [List.map_cons, Lib.join_length, ← List.map_cons]
    have := lens_le (z :: zs) h
    simp only [List.length_cons, List.length_map, List.length_nil] at this ⊢
    omega
theorem implFmt_zero (a : Option Addr) (cap : Nat) (w : World) :
    Calls Tryz.prog 11 #[.slice a 0 cap] w fun e w' => e = .returned (.string ⟨#[45]⟩) ∧ Below w.heap.size w w' := by
  go_enter Tryz.func11, Tryz.ntmps11
  go_wp2_with fail
  go_ret
  exact ⟨rfl, Below.refl _ _⟩
set_option maxRecDepth 100000 in
theorem implFmt_any (g o cap : Nat) (zs : List Int) (w : World) (h0 : ¬ zs.length = 0) (hl : zs.length ≤ 1048576) (hf : Fits zs) (ht : Tab w) (hcap : zs.length ≤ cap) (hcm : cap ≤ maxLen) (hg : g < w.heap.size)
    (hc : ∀ j (h : j < zs.length), w.cell? ⟨g, o + j, none⟩ = some (.int .i64 zs[j])) :
    Calls Tryz.prog 11 #[.slice (some ⟨g, o, none⟩) zs.length cap] w fun e w' => e = .returned (.string (fmtB zs)) ∧ Below w.heap.size w w' := by
  have HC := Lib.hid hc
  have HF := Lib.hid hf
  have HT := Lib.hid ht
  clear hc hf ht
  obtain ⟨n, hn⟩ : ∃ n, zs.length = n := ⟨_, rfl⟩
  have HN := Lib.hid hn
  rw [hn] at h0 hl hcap
  rw [hn]
  clear hn
  have e1 : ((n : Int) == 0) = false := by simp; omega
  have HS0 := Lib.hid (Strs.lit0 w)
  go_enter Tryz.func11, Tryz.ntmps11
  go_wp2_with fail
  go_loopw [3, 5, 12] (fun v _ i wr => ∃ k : Nat, k ≤ n ∧ i = .int .i64 k ∧ Hid (Strs w wr v ((zs.take k).map itoS))) (fun _ _ i _ => n - (intOf i).toNat)
  case atStart => exact ⟨0, by omega, rfl, HS0.out⟩
  case round =>
    obtain ⟨k, hk, rfl, HS⟩ := hrel
    by_cases hlt : k < n
    · have hkl : k < zs.length := by rw [HN.out]; exact hlt
      obtain ⟨z, hz⟩ : ∃ z, zs[k] = z := ⟨_, rfl⟩
      have hck := (HS.out.old.cell (p := ⟨g, o + k, none⟩) hg).trans (HC.out k hkl)
      rw [hz] at hck
      have HZ : Hid (-9223372036854775808 ≤ z ∧ z ≤ 9223372036854775807) := HF.out z (by rw [← hz]; exact List.getElem_mem hkl)
      have HK : Hid ((zs.take (k + 1)).map itoS = (zs.take k).map itoS ++ [itoS z]) := by
        show _ = _
        rw [List.take_succ_eq_append_getElem hkl, List.map_append, hz]
        rfl
      have hll : ((zs.take k).map itoS).length ≤ 2000000 := by
        rw [List.length_map, List.length_take]; omega
      have HI := Lib.hid (fun w ht => itoa_any z w HZ.out.1 HZ.out.2 ht)
      have HTr : Hid (Tab wr) := HT.out.below HS.out.old (Nat.le_refl _)
      clear hz hkl
      generalize (zs.take k).map itoS = L at *
      generalize itoS z = s at *
      go_wp2_with fail
      refine (HI.out _ HTr.out).mono ?_; rintro e w1 ⟨rfl, hb⟩
      have HS1 := Lib.hid (HS.out.kept hb); clear hb
      go_wp2_with (first | (at_builtin; refine wpList_app1 HS1.out hll rfl (.tmp 16) (.tmp 19) rfl _ _ (by simp) rfl rfl ?_; intro v' w' hs'; have HS' := Lib.hid hs'; clear hs') | fail)
      go_roundw
      case rel =>
        refine ⟨k + 1, by omega, by go_num, ?_⟩
        rw [HK.out]
        exact HS'.out
      case measure => simp [intOf]; omega
    · have hkn : k = n := by omega
      have HSn : Hid (Strs w wr u3 (zs.map itoS)) := by
        have h := HS.out
        rw [hkn, ← HN.out, List.take_length] at h
        exact h
      have HJ : Hid ((⟨(Lib.join ((zs.map itoS).map (·.data.toList)) (⟨#[32]⟩ : ByteArray).data.toList).toArray⟩ : ByteArray) = fmtB zs) := by
        show _ = _
        unfold fmtB
        rw [List.map_map]
        rfl
      have hjl : (Lib.join ((zs.map itoS).map (·.data.toList)) (⟨#[32]⟩ : ByteArray).data.toList).length ≤ 140737488355328 := by
        have h1 := join_size zs HF.out
        have h2 : ((zs.map itoS).map (·.data.toList)) = zs.map Lib.itoa := by rw [List.map_map]; rfl
        rw [h2]
        have h3 := HN.out
        show (Lib.join (zs.map Lib.itoa) [32]).length ≤ _
        omega
      have hll : (zs.map itoS).length = n := by rw [List.length_map]; exact HN.out
      obtain ⟨gg, cp, rfl, hg1, hg2, hlc, hcm2, hcc⟩ := HSn.out.cells
      have hcon := Any.strings_Join Tryz.lays156 joinExtra gg 0 cp (zs.map itoS) ⟨#[32]⟩ wr (fun j x hj => by
        obtain ⟨h1, h2⟩ := List.getElem?_eq_some_iff.1 hj
        rw [Nat.zero_add, hcc j h1, h2]) hg2 (by omega) hlc hjl
      rw [HJ.out] at hcon
      have HJn := Lib.hid hcon
      clear hcon hjl hcc HJ
      have HO : Hid (Below w.heap.size w wr) := HSn.out.old
      clear HSn HS
      rw [hll] at *
      have hkn' := Lib.hid hkn; clear hkn
      have hlt' : ¬ (k : Int) < (n : Int) := by omega
      go_wp2_with fail
      refine HJn.out.mono ?_; rintro e w1 ⟨rfl, hb⟩
      have HB := Lib.hid (HO.out.trans (hb.mono HO.out.size)); clear hb
      go_wp2_with fail
      go_ret
      exact ⟨rfl, HB.out⟩
end Go.Proofs.YtlkemhhkcanmoaaGreatDoor
