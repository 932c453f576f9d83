/- Contracts of the program's functions and what they compute: part 18. Conditions: those that each theorem states. -/
import Derived.Test.YthmhjihppbeodaaGreatDoorP7n1
import Derived.Test.YthmhjihppbeodaaGreatDoorP7n8
import Derived.Lib.ItoaLen
import Derived.Lib.ItoaMem
import Derived.IntWalk
import Derived.Laws.IdiomStrings
import Derived.Test.YthmhjihppbeodaaGreatDoorShelf2
import Derived.Lib.AppendIntMem
import Derived.Lib.LaidTab
import Derived.Lib.Join
namespace Go.Proofs.YthmhjihppbeodaaGreatDoor
open Go.RowKit
set_option linter.unusedVariables false
def decS (u : Nat) : ByteArray := ⟨(Lib.decDigits u).toArray⟩
def digS (d : Nat) : ByteArray := ⟨#[UInt8.ofNat (48 + d)]⟩
theorem decS_big (u : Nat) (h : ¬ u < 10) : decS u = decS (u / 10) ++ digS (u % 10) := by
  apply ByteArray.ext
  show (Lib.decDigits u).toArray = (decS (u / 10) ++ digS (u % 10)).data
  rw [ByteArray.data_append, Lib.decDigits, dif_neg h]
  simp [decS, digS]
theorem decS_small (u : Nat) (h : u < 10) : decS u = digS u := by
  unfold decS digS
  rw [Lib.decDigits, dif_pos h]
theorem decS_size (u : Nat) (h : u ≤ 9223372036854775808) : (decS u).size ≤ 20 := by
  show (Lib.decDigits u).toArray.size ≤ 20
  rw [List.size_toArray, Lib.decDigits_length]
  exact Lib.nDigits_le20 u (by omega)
theorem dig_conv (d : Nat) (hd : d < 10) (i : Int) (hi : i = 48 + (d : Int)) (w : World) :
    (convert 22 9 (.slice (some ⟨w.heap.size, 0, none⟩) 1 1)).run Tryz.prog (w.alloc (.cells #[.int .u8 i] 5)) = .ok (.string (digS d)) (w.alloc (.cells #[.int .u8 i] 5)) := by
  refine run_convert_bytes_back _ 22 9 5 ⟨w.heap.size, 0, none⟩ 1 [UInt8.ofNat (48 + d)] Tryz.underlying22 Tryz.underlying5 Tryz.underlying9 ?_
  intro j hj
  have hj0 : j = 0 := by simpa using hj
  subst hj0
  subst hi
  simp [Addr.add]
  omega
set_option maxRecDepth 100000 in
theorem dec_any (u : Nat) (w : World) (hu : (u : Int) ≤ 9223372036854775807) :
    Calls Tryz.prog 17 #[.int .i64 (u : Int)] w fun e w' => e = .returned (.string (decS u)) ∧ Below w.heap.size w w' := by
  have hz := decS_size u (by omega)
  have HZ := Lib.hid hz; clear hz
  go_enter Tryz.func17, Tryz.ntmps17
  go_wp2_with fail
  go_loopw [0, 3] (fun a o wr => ∃ (t : Nat) (out : ByteArray), a = .int .i64 t ∧ o = .string out ∧ (t : Int) ≤ 9223372036854775807 ∧ out.size ≤ 20 ∧ Hid (decS t ++ out = decS u) ∧ Hid (Below w.heap.size w wr)) (fun a _ _ => (intOf a).toNat)
  case atStart => exact ⟨u, ByteArray.empty, rfl, rfl, hu, by simp, by show decS u ++ ByteArray.empty = decS u; apply ByteArray.ext; simp, Below.refl _ _⟩
  case round =>
    obtain ⟨t, out, rfl, rfl, ht, ho, HT, HB⟩ := hrel
    by_cases hlt : (9 : Int) < t
    · have HD := Lib.hid (decS_big t (by omega))
      have hc := dig_conv (t % 10) (by omega) (48 + (t : Int) % 10) (by omega) wr
      have hdz : (digS (t % 10)).size = 1 := rfl
      have HB1 : Hid (Below w.heap.size w (wr.alloc (.cells #[.int .u8 (48 + (t : Int) % 10)] 5))) := HB.out.alloc HB.out.size _
      have hoz : out.size ≤ 19 := by
        have h1 := congrArg ByteArray.size HT.out
        have h2 := HZ.out
        rw [HD.out, ByteArray.size_append, ByteArray.size_append, hdz] at h1
        omega
      have HT1 : Hid (decS (t / 10) ++ (digS (t % 10) ++ out) = decS u) := by
        show _ = _
        rw [← HT.out, HD.out]
        apply ByteArray.ext
        simp [ByteArray.data_append, Array.append_assoc]
      generalize digS (t % 10) = D at *
      go_wp2_with fail
      go_roundw
      case rel => exact ⟨t / 10, D ++ out, by go_num, rfl, by omega, by rw [ByteArray.size_append]; omega, HT1.out, HB1.out⟩
      case measure => simp [intOf]; omega
    · have HD := Lib.hid (decS_small t (by omega))
      have hc := dig_conv t (by omega) (48 + (t : Int)) rfl wr
      have hdz : (digS t).size = 1 := rfl
      have HB1 : Hid (Below w.heap.size w (wr.alloc (.cells #[.int .u8 (48 + (t : Int))] 5))) := HB.out.alloc HB.out.size _
      have HT1 : Hid (digS t ++ out = decS u) := by
        show _ = _
        rw [← HT.out, HD.out]
      generalize digS t = D at *
      go_wp2_with fail
      go_ret
      exact ⟨congrArg (fun s => Ending.returned (.string s)) HT1.out, HB1.out⟩
def itoS (n : Int) : ByteArray := ⟨(Lib.itoa n).toArray⟩
end Go.Proofs.YthmhjihppbeodaaGreatDoor

namespace Go.Proofs.YthmhjihppbeodaaGreatDoor
open Go.RowKit
set_option linter.unusedVariables false
/-- The table that strconv reads. -/
def Tab (w : World) : Prop := Lib.TabIs Tryz.prog w "internal/strconv.uint64pow10" .u64 Lib.pow10Tab
theorem Tab.lt {w : World} (h : Tab w) : 2 < w.heap.size := by
  have hgn : Tryz.prog.globalNamed "internal/strconv.uint64pow10" = some 2 := by kernel_rfl
  unfold Tab Lib.TabIs World.var? at h
  rw [hgn] at h
  simp only [Option.bind_some] at h
  rcases Nat.lt_or_ge 2 w.heap.size with h' | h'
  · exact h'
  · rw [Array.getElem?_eq_none h'] at h; cases h
theorem Tab.below {w w' : World} {B : Nat} (h : Tab w) (hb : Below B w w') (hB : w.heap.size ≤ B) : Tab w' := by
  have hlt := h.lt
  have hgn : Tryz.prog.globalNamed "internal/strconv.uint64pow10" = some 2 := by kernel_rfl
  unfold Tab Lib.TabIs World.var? at h ⊢
  rw [hgn] at h ⊢
  simp only [Option.bind_some] at h ⊢
  rw [hb.block 2 (by omega)]
  exact h
theorem joinExtra : Builder.Extra Tryz.prog Tryz.lays156_ren := {
  sizeBuilder := by kernel_rfl
  liesBuilder := by kernel_rfl
  t5 := Tryz.underlying5
  a5 := Tryz.isAgg5
  z5 := Tryz.sizeOf5
  v5 := Tryz.zeroValue5
  infoByte := by kernel_rfl
  cellsByte := by kernel_rfl
  sizeByte := by kernel_rfl
  neB5 := by decide }
theorem itoa_any (n : Int) (w : World) (h0 : -9223372036854775808 ≤ n) (h1 : n ≤ 9223372036854775807) (ht : Tab w) :
    Calls Tryz.prog 30 #[.int .i64 n] w fun e w' => e = .returned (.string (itoS n)) ∧ Below w.heap.size w w' :=
  (Any.strconv_Itoa Tryz.lays171 n h0 h1 w ht).mono fun e w' ⟨he, k, os, hw⟩ => ⟨he, hw ▸ Lib.below_grow _ w (Nat.le_refl _) k os⟩
/-- Numbers with blanks between them. -/
def fmtB (zs : List Int) : ByteArray := ⟨(Lib.join (zs.map Lib.itoa) [32]).toArray⟩
theorem itoS_size (n : Int) (h0 : -9223372036854775808 ≤ n) (h1 : n ≤ 9223372036854775807) : (itoS n).size ≤ 21 := by
  show (Lib.itoa n).toArray.size ≤ 21
  rw [List.size_toArray]
  exact Lib.itoa_length_le n h0 h1
def Fits (zs : List Int) : Prop := ∀ z ∈ zs, -9223372036854775808 ≤ z ∧ z ≤ 9223372036854775807
theorem lens_le (zs : List Int) (h : Fits zs) : Lib.lens (zs.map Lib.itoa) ≤ 21 * zs.length := by
  induction zs with
  | nil => simp [Lib.lens]
  | cons z zs ih =>
    have h1 := ih (fun y hy => h y (List.mem_cons_of_mem _ hy))
    have h2 := Lib.itoa_length_le z (h z (List.mem_cons_self ..)).1 (h z (List.mem_cons_self ..)).2
    simp only [Lib.lens, List.map_cons, List.sum_cons, List.length_cons] at h1 ⊢
    omega
theorem join_size (zs : List Int) (h : Fits zs) : (Lib.join (zs.map Lib.itoa) [32]).length ≤ 22 * zs.length := by
  cases zs with
  | nil => simp [Lib.join_nil]
  | cons z zs =>
    rw [List.map_cons, Lib.join_length, ← List.map_cons]
    have := lens_le (z :: zs) h
    simp only [List.length_cons, List.length_map, List.length_nil] at this ⊢
    omega
theorem implFmt_zero (a : Option Addr) (cap : Nat) (w : World) :
    Calls Tryz.prog 12 #[.slice a 0 cap] w fun e w' => e = .returned (.string ⟨#[45]⟩) ∧ Below w.heap.size w w' := by
  go_enter Tryz.func12, Tryz.ntmps12
  go_wp2_with fail
  go_ret
  exact ⟨rfl, Below.refl _ _⟩
set_option maxRecDepth 100000 in
theorem implFmt_any (g o cap : Nat) (zs : List Int) (w : World) (h0 : ¬ zs.length = 0) (hl : zs.length ≤ 1048576) (hf : Fits zs) (ht : Tab w) (hcap : zs.length ≤ cap) (hcm : cap ≤ maxLen) (hg : g < w.heap.size)
    (hc : ∀ j (h : j < zs.length), w.cell? ⟨g, o + j, none⟩ = some (.int .i64 zs[j])) :
    Calls Tryz.prog 12 #[.slice (some ⟨g, o, none⟩) zs.length cap] w fun e w' => e = .returned (.string (fmtB zs)) ∧ Below w.heap.size w w' := by
  have HC := Lib.hid hc
  have HF := Lib.hid hf
  have HT := Lib.hid ht
  clear hc hf ht
  obtain ⟨n, hn⟩ : ∃ n, zs.length = n := ⟨_, rfl⟩
  have HN := Lib.hid hn
  rw [hn] at h0 hl hcap
  rw [hn]
  clear hn
  have e1 : ((n : Int) == 0) = false := by simp; omega
  have HS0 := Lib.hid (Strs.lit0 w)
  go_enter Tryz.func12, Tryz.ntmps12
  go_wp2_with fail
  go_loopw [3, 5, 12] (fun v _ i wr => ∃ k : Nat, k ≤ n ∧ i = .int .i64 k ∧ Hid (Strs w wr v ((zs.take k).map itoS))) (fun _ _ i _ => n - (intOf i).toNat)
  case atStart => exact ⟨0, by omega, rfl, HS0.out⟩
  case round =>
    obtain ⟨k, hk, rfl, HS⟩ := hrel
    by_cases hlt : k < n
    · have hkl : k < zs.length := by rw [HN.out]; exact hlt
      obtain ⟨z, hz⟩ : ∃ z, zs[k] = z := ⟨_, rfl⟩
      have hck := (HS.out.old.cell (p := ⟨g, o + k, none⟩) hg).trans (HC.out k hkl)
      rw [hz] at hck
      have HZ : Hid (-9223372036854775808 ≤ z ∧ z ≤ 9223372036854775807) := HF.out z (by rw [← hz]; exact List.getElem_mem hkl)
      have HK : Hid ((zs.take (k + 1)).map itoS = (zs.take k).map itoS ++ [itoS z]) := by
        show _ = _
        rw [List.take_succ_eq_append_getElem hkl, List.map_append, hz]
        rfl
      have hll : ((zs.take k).map itoS).length ≤ 2000000 := by
        rw [List.length_map, List.length_take]; omega
      have HI := Lib.hid (fun w ht => itoa_any z w HZ.out.1 HZ.out.2 ht)
      have HTr : Hid (Tab wr) := HT.out.below HS.out.old (Nat.le_refl _)
      clear hz hkl
      generalize (zs.take k).map itoS = L at *
      generalize itoS z = s at *
      go_wp2_with fail
      refine (HI.out _ HTr.out).mono ?_; rintro e w1 ⟨rfl, hb⟩
      have HS1 := Lib.hid (HS.out.kept hb); clear hb
      go_wp2_with (first | (at_builtin; refine wpList_app1 HS1.out hll rfl (.tmp 16) (.tmp 19) rfl _ _ (by simp) rfl rfl ?_; intro v' w' hs'; have HS' := Lib.hid hs'; clear hs') | fail)
      go_roundw
      case rel =>
        refine ⟨k + 1, by omega, by go_num, ?_⟩
        rw [HK.out]
        exact HS'.out
      case measure => simp [intOf]; omega
    · have hkn : k = n := by omega
      have HSn : Hid (Strs w wr u3 (zs.map itoS)) := by
        have h := HS.out
        rw [hkn, ← HN.out, List.take_length] at h
        exact h
      have HJ : Hid ((⟨(Lib.join ((zs.map itoS).map (·.data.toList)) (⟨#[32]⟩ : ByteArray).data.toList).toArray⟩ : ByteArray) = fmtB zs) := by
        show _ = _
        unfold fmtB
        rw [List.map_map]
        rfl
      have hjl : (Lib.join ((zs.map itoS).map (·.data.toList)) (⟨#[32]⟩ : ByteArray).data.toList).length ≤ 140737488355328 := by
        have h1 := join_size zs HF.out
        have h2 : ((zs.map itoS).map (·.data.toList)) = zs.map Lib.itoa := by rw [List.map_map]; rfl
        rw [h2]
        have h3 := HN.out
        show (Lib.join (zs.map Lib.itoa) [32]).length ≤ _
        omega
      have hll : (zs.map itoS).length = n := by rw [List.length_map]; exact HN.out
      obtain ⟨gg, cp, rfl, hg1, hg2, hlc, hcm2, hcc⟩ := HSn.out.cells
      have hcon := Any.strings_Join Tryz.lays156 joinExtra gg 0 cp (zs.map itoS) ⟨#[32]⟩ wr (fun j x hj => by
        obtain ⟨h1, h2⟩ := List.getElem?_eq_some_iff.1 hj
        rw [Nat.zero_add, hcc j h1, h2]) hg2 (by omega) hlc hjl
      rw [HJ.out] at hcon
      have HJn := Lib.hid hcon
      clear hcon hjl hcc HJ
      have HO : Hid (Below w.heap.size w wr) := HSn.out.old
      clear HSn HS
      rw [hll] at *
      have hkn' := Lib.hid hkn; clear hkn
      have hlt' : ¬ (k : Int) < (n : Int) := by omega
      go_wp2_with fail
      refine HJn.out.mono ?_; rintro e w1 ⟨rfl, hb⟩
      have HB := Lib.hid (HO.out.trans (hb.mono HO.out.size)); clear hb
      go_wp2_with fail
      go_ret
      exact ⟨rfl, HB.out⟩
end Go.Proofs.YthmhjihppbeodaaGreatDoor
