/- Contracts of the program's functions and what they compute: part 10. Conditions: those that each theorem states. -/
import Derived.Test.YthmhjihppbeodaaGreatDoorP7n9
namespace Go.Proofs.YthmhjihppbeodaaGreatDoor
open Go.RowKit
set_option linter.unusedVariables false
set_option maxRecDepth 100000
/-- Pieces, each with a byte behind it, and a last one. -/
def joinPc (c : UInt8) (z : List UInt8) : List (List UInt8) → List UInt8
  | [] => z
  | l :: ls => l ++ c :: joinPc c z ls
def joinC (c : UInt8) (z : ByteArray) (ls : List ByteArray) : ByteArray := ⟨(joinPc c z.data.toList (ls.map fun s => s.data.toList)).toArray⟩
theorem joinC_nil (c : UInt8) (z : ByteArray) : joinC c z [] = z := ByteArray.ext (Array.toList_inj.1 rfl)
theorem joinC_cons (c : UInt8) (z l : ByteArray) (ls : List ByteArray) : (joinC c z (l :: ls)).data.toList = l.data.toList ++ c :: (joinC c z ls).data.toList := rfl
theorem joinC_len (c : UInt8) (z : ByteArray) : ∀ ls : List ByteArray, ls.length ≤ (joinC c z ls).size
  | [] => Nat.zero_le _
  | l :: ls => by
    have h := joinC_len c z ls
    have e := congrArg List.length (joinC_cons c z l ls)
    rw [List.length_append, List.length_cons] at e
    have h2 : (joinC c z (l :: ls)).size = l.size + ((joinC c z ls).size + 1) := by simpa using e
    simp only [List.length_cons]
    omega
theorem joinC_drop (c : UInt8) (z : ByteArray) : ∀ (ls : List ByteArray) (j : Nat), (joinC c z (ls.drop j)).size ≤ (joinC c z ls).size
  | ls, 0 => Nat.le_refl _
  | [], j + 1 => by simp
  | l :: ls, j + 1 => by
    have h := joinC_drop c z ls j
    have e := congrArg List.length (joinC_cons c z l ls)
    rw [List.length_append, List.length_cons] at e
    have h2 : (joinC c z (l :: ls)).size = l.size + ((joinC c z ls).size + 1) := by simpa using e
    rw [List.drop_succ_cons]
    omega
theorem count_join (c : UInt8) (z : ByteArray) (hz : c ∉ z.data.toList) : ∀ ls : List ByteArray, (∀ l ∈ ls, c ∉ l.data.toList) → Lib.countByte (joinC c z ls).data.toList c = ls.length
  | [], _ => by
    rw [joinC_nil]
    unfold Lib.countByte
    rw [List.count_eq_zero.2 hz]
    rfl
  | l :: ls, h => by
    rw [joinC_cons]
    have ih := count_join c z hz ls (fun x hx => h x (by simp [hx]))
    unfold Lib.countByte at *
    rw [List.count_append, List.count_cons, ih, List.count_eq_zero.2 (h l (by simp))]
    simp
/-- What a split gives. -/
def SplitC (w : World) (ls : List ByteArray) (z : ByteArray) (e : Ending) (w' : World) : Prop := ∃ g n, e = .returned (.slice (some ⟨g, 0, none⟩) n n) ∧ n = ls.length + 1 ∧ Sp w g n (ls ++ [z]) n w'
set_option maxHeartbeats 2000000 in
theorem genSplit_join (c : UInt8) (z : ByteArray) (hz : c ∉ z.data.toList) (ls : List ByteArray) (h : ∀ l ∈ ls, c ∉ l.data.toList) (hl : ls.length ≤ 1000) (hs : (joinC c z ls).size ≤ 1000000) (w : World) :
    Calls Tryz.prog 57 #[.string (joinC c z ls), .string ⟨#[c]⟩, .int .i64 0, .int .i64 (-1)] w (SplitC w ls z) := by
  have HCO := Lib.hid (fun w => count_one (joinC c z ls) c w)
  rw [count_join c z hz ls h] at HCO
  have hsz : ls.length ≤ (joinC c z ls).size := joinC_len c z ls
  obtain ⟨i0, hi, hz, h1, h2⟩ := info_parts strInfo9
  have HI := Lib.hid (And.intro hi (And.intro hz (And.intro h1 h2)))
  clear hi hz h1 h2
  obtain ⟨N, hN⟩ : ∃ N, ls.length = N := ⟨_, rfl⟩
  obtain ⟨ZS, hZS⟩ : ∃ zs, (joinC c z ls).size = zs := ⟨_, rfl⟩
  have hmin : min ((N : Int) + 1) ((ZS : Int) + 1) = (N : Int) + 1 := by omega
  have hminb : ¬ ((ZS : Int) + 1 < (N : Int) + 1) := by omega
  have hNI : (N : Int) ≤ 1000 := by omega
  have hN1 : (N : Int) + 1 - 1 = (N : Int) := by omega
  have hZI : (ZS : Int) ≤ 1000000 := by omega
  rw [hN] at HCO
  have hsp : (⟨#[c]⟩ : ByteArray).size = 1 := rfl
  go_enter Tryz.func57, Tryz.ntmps57
  go_wp2_with fail
  refine (HCO.out _).mono ?_; rintro _ w1 ⟨rfl, hw1⟩; rw [hw1]; clear hw1 w1
  go_wp2_with (first | (refine wpList_make_full _ rfl _ _ 46 rfl w.heap.size 9 i0 (.string ByteArray.empty) 1 Tryz.underlying46 HI.out.1 HI.out.2.1 HI.out.2.2.1 .i64 .i64 ((N : Int) + 1) ((N : Int) + 1) (N + 1) rfl rfl (by omega) (by omega) (by rw [HI.out.2.2.2]; omega) (by unfold maxLen; omega) (Nat.le_refl _) ?_; intro w2 hown hgr; have HP0 : Hid (Sp w w.heap.size (N + 1) ls 0 w2) := sp_first hown hgr; clear hown hgr) | fail)
  obtain ⟨g, hg⟩ : ∃ g, w.heap.size = g := ⟨_, rfl⟩
  rw [hg] at HP0 ⊢
  have HSZ : Hid ((joinC c z ls).size ≤ 1000000) := hs
  have HH := Lib.hid h
  have HNE := Lib.hid hN
  have HSPL := Lib.hid (fun j (hj : j < ls.length) => linesB_drop ls j hj)
  have HLE : Hid (∀ j, (joinC c z (ls.drop j)).size ≤ (joinC c z ls).size) := joinC_drop c z ls
  clear hs h hg HCO HI hmin hminb hsz hZS hZI
  go_loopw [0, 10] (fun t q wr => ∃ j : Nat, j ≤ N ∧ q = .int .i64 (j : Int) ∧ t = .string (joinC c z (ls.drop j)) ∧ Hid (Sp w g (N + 1) ls j wr)) (fun _ q _ => N - (intOf q).toNat)
  case atStart => exact ⟨0, by omega, rfl, rfl, HP0.out⟩
  case round =>
    clear HP0
    obtain ⟨j, hj, rfl, rfl, HP⟩ := hrel
    by_cases hlt : j < N
    · have hjL : j < ls.length := by omega
      have hjI : (j : Int) < (N : Int) := by omega
      have hjI1 : (j : Int) < (N : Int) + 1 := by omega
      have HD : Hid ((joinC c z (ls.drop j)).data.toList = ls[j].data.toList ++ c :: (joinC c z (ls.drop (j + 1))).data.toList) := by
        show _ = _
        rw [HSPL.out j hjL, joinC_cons]
      have HT := HLE.out j
      have HNO := HH.out ls[j] (List.getElem_mem hjL)
      have HP1 := Lib.hid (HP.out.step hjL (by omega))
      obtain ⟨x0, x1, x2⟩ := HP.out.cell (j := j) (by omega)
      have hz1 := HSZ.out
      generalize ls[j] = PJ at *
      obtain ⟨T2, hT2⟩ : ∃ T2, joinC c z (ls.drop (j + 1)) = T2 := ⟨_, rfl⟩
      have HT2 := Lib.hid hT2
      rw [hT2] at HD
      clear hT2
      generalize joinC c z (ls.drop j) = T at *
      have hTs : T.size = PJ.size + 1 + T2.size := by
        have := congrArg List.length HD.out
        rw [List.length_append, List.length_cons] at this
        have h2 : T.size = PJ.size + (T2.size + 1) := by simpa using this
        omega
      have HIX := Lib.hid (fun w => index_one T c w)
      rw [← index_bytes, HD.out, index_at c T2.data.toList PJ.data.toList HNO] at HIX
      rw [show PJ.data.toList.length = PJ.size by simp] at HIX
      have e1 : T.extract 0 PJ.size = PJ := by
        apply ByteArray.ext
        apply Array.toList_inj.1
        rw [Lib.extract_from_zero, HD.out]
        simp
      have e2 : T.extract (PJ.size + 1) T.size = T2 := by
        apply ByteArray.ext
        apply Array.toList_inj.1
        rw [Lib.extract_to_end, HD.out]
        have : PJ.size = PJ.data.toList.length := by simp
        rw [this, List.drop_append]
        simp
      obtain ⟨k, hk⟩ : ∃ k, PJ.size = k := ⟨_, rfl⟩
      rw [hk] at HIX e1 e2 hTs
      have hkI : (k : Int) ≤ (T.size : Int) := by omega
      have hk1I : (k : Int) + 1 ≤ (T.size : Int) := by omega
      have hk0 : ¬ (k : Int) < 0 := by omega
      have hkw : IntKind.i64.wrap ((k : Int) + 1) = (k : Int) + 1 := IntWalk.i64_in _ (by omega)
      have hsl1 : ∀ wx, (Instr.slice 9 (.string T) none (some (.int .i64 (k : Int))) none).run Tryz.prog wx = .ok (.string PJ) wx := fun wx => by
        rw [run_slice_string_to_if wx _ T _ _ Tryz.underlying9, if_pos ⟨by omega, by omega⟩, Int.toNat_natCast, e1]
      have hsl2 : ∀ wx, (Instr.slice 9 (.string T) (some (.int .i64 ((k : Int) + 1))) none none).run Tryz.prog wx = .ok (.string T2) wx := fun wx => by
        rw [run_slice_string_from_if wx _ T _ _ Tryz.underlying9, if_pos ⟨by omega, by omega⟩, show ((k : Int) + 1).toNat = k + 1 by omega, e2]
      clear e1 e2 hk HNO HD
      go_wp2_with fail
      refine (HIX.out _).mono ?_; rintro _ w1 ⟨rfl, hw1⟩; rw [hw1]; clear hw1 w1
      go_wp2_with fail
      go_roundw
      case rel => exact ⟨j + 1, by omega, by go_num, by rw [HT2.out], HP1.out⟩
      case measure => simp [intOf]; omega
    · obtain rfl : j = N := by omega
      have hjI : ¬ (j : Int) < (j : Int) := by omega
      have HE : Hid (joinC c z (ls.drop j) = z) := by
        show _ = _
        rw [← HNE.out, List.drop_length]
        exact joinC_nil c z
      have HP1 : Hid (Sp w g (j + 1) (ls ++ [z]) (j + 1) (wr.setCell ⟨g, j, none⟩ (.string z))) := by
        have h1 := HP.out.own.stored j (.string z)
        have e : (cellsAt ls (j + 1) j).set j (.string z) = cellsAt (ls ++ [z]) (j + 1) (j + 1) := by
          unfold cellsAt
          rw [← HNE.out, List.take_length, List.take_of_length_le (by simp), show ls.length + 1 - ls.length = 1 by omega, Nat.sub_self]
          simp
        rw [e] at h1
        exact ⟨h1.1, HP.out.old.setCell (HP.out.own.lt g rfl).1 _⟩
      obtain ⟨x0, x1, x2⟩ := HP.out.cell (j := j) (by omega)
      have HF : Hid (SplitC w ls z (.returned (.slice (some ⟨g, 0, none⟩) (j + 1) (j + 1))) (wr.setCell ⟨g, j, none⟩ (.string z))) := ⟨g, j + 1, rfl, by rw [HNE.out], HP1.out⟩
      rw [HE.out]
      clear HP1 HP HE
      go_wp2_with fail
      go_ret
      exact HF.out
theorem split_join (c : UInt8) (z : ByteArray) (hz : c ∉ z.data.toList) (ls : List ByteArray) (h : ∀ l ∈ ls, c ∉ l.data.toList) (hl : ls.length ≤ 1000) (hs : (joinC c z ls).size ≤ 1000000) (w : World) :
    Calls Tryz.prog 32 #[.string (joinC c z ls), .string ⟨#[c]⟩] w (SplitC w ls z) := by
  have H := Lib.hid (fun w => genSplit_join c z hz ls h hl hs w)
  clear h hs
  go_enter Tryz.func32, Tryz.ntmps32
  go_wp2_with fail
  refine (H.out _).mono ?_; rintro _ w1 hq
  obtain ⟨g, n, rfl, hn, hsp⟩ := hq
  have HF : Hid (SplitC w ls z (.returned (.slice (some ⟨g, 0, none⟩) n n)) w1) := ⟨g, n, rfl, hn, hsp⟩
  clear hn hsp
  go_wp2_with fail
  go_ret
  exact HF.out
end Go.Proofs.YthmhjihppbeodaaGreatDoor
