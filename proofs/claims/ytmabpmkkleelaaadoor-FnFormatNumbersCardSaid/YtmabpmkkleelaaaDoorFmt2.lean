/- Numbers as a text: FormatNumbers of the reference. Conditions: the numbers fit their kind, there are not too many. -/
import Derived.Test.YtmabpmkkleelaaaDoorFmt
namespace Go.Proofs.YtmabpmkkleelaaaDoor
open Go.RowKit
set_option linter.unusedVariables false

theorem fmtB_one (z : Int) : fmtB [z] = itoS z := by
  unfold fmtB itoS
  rw [List.map_cons, List.map_nil, Lib.join_one]
theorem fmtB_snoc (zs : List Int) (z : Int) (h : ¬ zs.length = 0) : fmtB (zs ++ [z]) = fmtB zs ++ ⟨#[32]⟩ ++ itoS z := by
  cases zs with
  | nil => exact absurd rfl h
  | cons y r =>
    apply ByteArray.ext
    rw [ByteArray.data_append, ByteArray.data_append]
    show (Lib.join ((y :: r ++ [z]).map Lib.itoa) [32]).toArray = (Lib.join ((y :: r).map Lib.itoa) [32]).toArray ++ #[32] ++ (Lib.itoa z).toArray
    rw [List.cons_append, List.map_cons, List.map_cons, Lib.join_cons, Lib.join_cons, List.map_append]
    simp [Lib.joinTail]
theorem itoS_pos (n : Int) : 0 < (itoS n).size := by
  show 0 < (Lib.itoa n).toArray.size
  rw [List.size_toArray]
  unfold Lib.itoa
  split
  · simp
  · rw [Lib.decDigits]
    split
    · simp
    · simp
theorem fmtB_pos (zs : List Int) (h : ¬ zs.length = 0) : 0 < (fmtB zs).size := by
  have e : zs = zs.take (zs.length - 1) ++ [zs[zs.length - 1]] := by
    rw [← List.take_succ_eq_append_getElem (by omega), show zs.length - 1 + 1 = zs.length by omega, List.take_length]
  rw [e]
  by_cases h1 : (zs.take (zs.length - 1)).length = 0
  · rw [List.eq_nil_of_length_eq_zero h1, List.nil_append, fmtB_one]
    exact itoS_pos _
  · rw [fmtB_snoc _ _ h1, ByteArray.size_append]
    have := itoS_pos zs[zs.length - 1]
    omega
theorem fmtB_size (zs : List Int) (h : Fits zs) : (fmtB zs).size ≤ 22 * zs.length := by
  show (Lib.join (zs.map Lib.itoa) [32]).toArray.size ≤ _
  rw [List.size_toArray]
  exact join_size zs h
/-- What FormatNumbers returns. -/
def fmtRes (zs : List Int) : ByteArray := if zs.length = 0 then ⟨#[45]⟩ else fmtB zs

theorem specFmt_zero (a : Option Addr) (cap : Nat) (w : World) :
    Calls Tryd.prog 38 #[.slice a 0 cap] w fun e w' => e = .returned (.string ⟨#[45]⟩) ∧ Below w.heap.size w w' := by
  go_enter Tryd.func38, Tryd.ntmps38
  go_wp2_with fail
  go_loop [3, 4] (fun o i => o = .string ByteArray.empty ∧ i = .int .i64 0) (fun _ i => 0)
  case atStart => exact ⟨rfl, rfl⟩
  case round =>
    obtain ⟨rfl, rfl⟩ := hrel
    go_wp2_with fail
    go_ret
    exact ⟨rfl, Below.refl _ _⟩

set_option maxRecDepth 100000 in
theorem specFmt_any (g o cap : Nat) (zs : List Int) (w : World) (h0 : ¬ zs.length = 0) (hl : zs.length ≤ 1048576) (hf : Fits zs) (hcap : zs.length ≤ cap) (hcm : cap ≤ maxLen) (hg : g < w.heap.size)
    (hc : ∀ j (h : j < zs.length), w.cell? ⟨g, o + j, none⟩ = some (.int .i64 zs[j])) :
    Calls Tryd.prog 38 #[.slice (some ⟨g, o, none⟩) zs.length cap] w fun e w' => e = .returned (.string (fmtB zs)) ∧ Below w.heap.size w w' := by
  have HC := Lib.hid hc
  have HF := Lib.hid hf
  clear hc hf
  obtain ⟨n, hn⟩ : ∃ n, zs.length = n := ⟨_, rfl⟩
  have HN := Lib.hid hn
  rw [hn] at h0 hl hcap
  rw [hn]
  clear hn
  go_enter Tryd.func38, Tryd.ntmps38
  go_wp2_with fail
  go_loopw [3, 4] (fun v i wr => ∃ k : Nat, k ≤ n ∧ i = .int .i64 k ∧ ∃ out : ByteArray, v = .string out ∧ Hid (out = fmtB (zs.take k)) ∧ Hid (Below w.heap.size w wr)) (fun _ i _ => n - (intOf i).toNat)
  case atStart => exact ⟨0, by omega, rfl, ByteArray.empty, rfl, rfl, Below.refl _ _⟩
  case round =>
    obtain ⟨k, hk, rfl, out, rfl, HO, HB⟩ := hrel
    by_cases hlt : k < n
    · have hkl : k < zs.length := by rw [HN.out]; exact hlt
      obtain ⟨z, hz⟩ : ∃ z, zs[k] = z := ⟨_, rfl⟩
      have hck := (HB.out.cell (p := ⟨g, o + k, none⟩) hg).trans (HC.out k hkl)
      rw [hz] at hck
      have HZ : Hid (-9223372036854775808 ≤ z ∧ z ≤ 9223372036854775807) := HF.out z (by rw [← hz]; exact List.getElem_mem hkl)
      have hoz : (out.size : Int) ≤ 30000000 := by
        rw [HO.out]
        have := fmtB_size (zs.take k) (fun y hy => HF.out y (List.mem_of_mem_take hy))
        rw [List.length_take] at this
        omega
      have hsz : ((itoS z).size : Int) ≤ 21 := by have := itoS_size z HZ.out.1 HZ.out.2; omega
      have HI := Lib.hid (fun w => l15Dec_any z w HZ.out.1 HZ.out.2)
      have HK : Hid (zs.take (k + 1) = zs.take k ++ [z]) := by
        show _ = _
        rw [List.take_succ_eq_append_getElem hkl, hz]
      have HLk : Hid ((zs.take k).length = k) := by show _ = _; rw [List.length_take]; omega
      by_cases hk0 : k = 0
      · subst hk0
        have hck' : wr.cell? ⟨g, o, none⟩ = some (.int .i64 z) := hck
        have HE : Hid (out ++ itoS z = fmtB (zs.take (0 + 1))) := by
          show _ = _
          rw [HK.out, HO.out, List.take_zero, List.nil_append, fmtB_one]
          apply ByteArray.ext
          simp [ByteArray.data_append, fmtB, Lib.join_nil]
        clear hz hkl HK HLk
        generalize itoS z = s at *
        go_wp2_with fail
        refine (HI.out _).mono ?_; rintro e w1 ⟨rfl, hb⟩
        have HB1 := Lib.hid (HB.out.trans (hb.mono HB.out.size)); clear hb
        go_wp2_with fail
        go_roundw
        case rel => exact ⟨0 + 1, by omega, by go_num, _, rfl, HE.out, HB1.out⟩
        case measure => simp [intOf]; omega
      · have HE : Hid (out ++ ⟨#[32]⟩ ++ itoS z = fmtB (zs.take (k + 1))) := by
          show _ = _
          rw [HK.out, fmtB_snoc _ _ (by rw [HLk.out]; exact hk0), HO.out]
        have hk1 : (0 : Int) < (k : Int) := by omega
        clear hz hkl HK HLk
        generalize itoS z = s at *
        go_wp2_with fail
        refine (HI.out _).mono ?_; rintro e w1 ⟨rfl, hb⟩
        have HB1 := Lib.hid (HB.out.trans (hb.mono HB.out.size)); clear hb
        go_wp2_with fail
        go_roundw
        case rel => exact ⟨k + 1, by omega, by go_num, _, rfl, HE.out, HB1.out⟩
        case measure => simp [intOf]; omega
    · have hkn : k = n := by omega
      have HE : Hid (out = fmtB zs) := by
        have h := HO.out
        rw [hkn, ← HN.out, List.take_length] at h
        exact h
      have hpos : 0 < out.size := by rw [HE.out]; exact fmtB_pos zs (by rw [HN.out]; exact h0)
      have hne : out.toList.isEmpty = false := by
        rw [ByteArray.toList_eq]
        have : 0 < out.data.toList.length := by simpa using hpos
        cases h : out.data.toList with
        | nil => rw [h] at this; cases this
        | cons x l => rfl
      have hne2 : ¬ out.toList = [] := by
        intro h; rw [h] at hne; cases hne
      have hkn' := Lib.hid hkn; clear hkn hpos
      go_wp2_with fail
      go_ret
      exact ⟨congrArg (fun s => Ending.returned (.string s)) HE.out, HB.out⟩
end Go.Proofs.YtmabpmkkleelaaaDoor
