/- Contracts of the program's functions and what they compute: part 32. Conditions: those that each theorem states. -/
import Derived.Test.YthmhjihppbeodaaGreatDoorP7n12
import Derived.Test.YthmhjihppbeodaaGreatDoorP7n28
import Derived.Test.YthmhjihppbeodaaGreatDoorP7n31
namespace Go.Proofs.YthmhjihppbeodaaGreatDoor
open Go.RowKit
set_option linter.unusedVariables false
set_option maxRecDepth 100000
/-- What l5Moves leaves. -/
def MovP (n m : Nat) (s : ByteArray) (w : World) (e : Ending) (w' : World) : Prop := ∃ v, e = .returned (.tuple #[v, .bool (okMs n m s)]) ∧ Below w.heap.size w w' ∧
  (okMs n m s = true → ∃ g cap, v = .slice (some ⟨g, 0, none⟩) (mvsOf s).length cap ∧ w.heap.size ≤ g ∧ g < w'.heap.size ∧ (mvsOf s).length ≤ cap ∧ cap ≤ maxLen ∧ ∀ (j : Nat) (h : j < (mvsOf s).length), w'.cell? ⟨g, j, none⟩ = some (.string (mvsOf s)[j]))
theorem mov_no {n m : Nat} {s : ByteArray} {w w' : World} {v : Value} (h : okMs n m s = false) (hb : Below w.heap.size w w') : MovP n m s w (.returned (.tuple #[v, .bool false])) w' :=
  ⟨v, by rw [h], hb, fun h2 => by rw [h] at h2; cases h2⟩
theorem okMs_is {n m : Nat} {s : ByteArray} (h0 : s.size ≠ 0) : okMs n m s = ((pcsS 32 s).all (okPc n m) && decide ((pcsS 32 s).length ≤ 3)) := by
  unfold okMs
  rw [pcsS_is, decide_eq_false h0, Bool.false_or]
  congr 1
  exact decide_eq_decide.2 (by simp)
set_option maxHeartbeats 2000000 in
theorem l5Moves_any (n m : Nat) (S R S2 R2 s : ByteArray) (hn : n ≤ 8) (hm : m ≤ 8) (hs : s.size ≤ 900) (w : World) :
    Calls Tryz.prog 25 #[strV n S R, strV m S2 R2, .string s] w (MovP n m s w) := by
  have HT := Lib.hid (Two.new w n S R m S2 R2)
  unfold boxS at HT
  have HCT := Lib.hid (fun w => l15Cut_any s 32 w (by omega))
  have hlen : (pcsS 32 s).length ≤ 901 := by
    have h := pcs_len 32 s.data.toList
    unfold pcsS
    rw [List.length_map]
    have hl : s.data.toList.length = s.size := by simp
    omega
  have HIN := Lib.hid (fun a b c w => l1In_b a b c w)
  obtain ⟨a0, a1, a2, _, _, _, hl1⟩ := HT.out.a.cells
  obtain ⟨b0, b1, b2, _, _, _, hl2⟩ := HT.out.b.cells
  by_cases h0 : s.size = 0
  · have hse : s = ByteArray.empty := by
      obtain ⟨⟨l⟩⟩ := s
      match l, h0 with
      | [], _ => rfl
    subst hse
    have hok : okMs n m ByteArray.empty = true := rfl
    have hmv : mvsOf ByteArray.empty = [] := rfl
    clear HCT hlen
    unfold strV
    go_enter Tryz.func25, Tryz.ntmps25
    go_wp2_with fail
    go_ret2
    refine ⟨_, rfl, HT.out.old.alloc HT.out.old.size _, fun _ => ?_⟩
    rw [hmv]
    refine ⟨_, 0, rfl, by omega, by simp, by simp, by decide, fun j h => absurd h (by simp)⟩
  · have hne : s.toList.isEmpty = false := by
      cases h : s.toList with
      | nil => exact absurd (by have := congrArg List.length h; simpa [Lib.toList_data] using this) h0
      | cons a l => rfl
    have hmv : mvsOf s = pcsS 32 s := by unfold mvsOf; rw [if_neg h0, pcsS_is]
    have hE := okMs_is (n := n) (m := m) h0
    have HMN : Hid (∀ (w' : World) (v : Value), okMs n m s = false → Below w.heap.size w w' → MovP n m s w (.returned (.tuple #[v, .bool false])) w') := fun w' v h hb => mov_no h hb
    obtain ⟨LS, hLS⟩ : ∃ l, pcsS 32 s = l := ⟨_, rfl⟩
    rw [hLS] at hE hlen hmv HCT
    have HE := Lib.hid hE
    have HMV := Lib.hid hmv
    clear hE hmv hLS
    unfold strV
    go_enter Tryz.func25, Tryz.ntmps25
    go_wp2_with fail
    refine (HCT.out _).mono ?_; rintro e w1 ⟨v, rfl, hst⟩
    obtain ⟨g, cap, rfl, hg1, hg2, hg3, hg4, hgc⟩ := hst.cells
    have HT1 := Lib.hid (HT.out.below hst.old)
    have HG1 : Hid (w.heap.size ≤ g) := by have := HT.out.old.size; show _ ≤ _; omega
    have HGC := Lib.hid hgc
    clear HCT hst hgc hg1 HT a0 a1 a2 b0 b1 b2 hl1 hl2
    obtain ⟨a0, a1, a2, _, _, _, hl1⟩ := HT1.out.a.cells
    obtain ⟨b0, b1, b2, _, _, _, hl2⟩ := HT1.out.b.cells
    obtain ⟨N, hN⟩ : ∃ N, LS.length = N := ⟨_, rfl⟩
    have HNN := Lib.hid hN
    rw [hN] at hlen hg3 ⊢
    unfold maxLen at hg4
    clear hN
    go_wp2_with fail
    go_loopw [9] (fun i wr => ∃ j : Nat, j ≤ N ∧ i = .int .i64 (j : Int) ∧ Hid (Below w1.heap.size w1 wr) ∧ Hid (∀ z (hz : z < LS.length), z < j → okPc n m LS[z] = true)) (fun i _ => N - (intOf i).toNat)
    case atStart => exact ⟨0, by omega, rfl, Below.refl _ _, fun z hz h => by omega⟩
    case round =>
      obtain ⟨j, hj, rfl, HBW, HK⟩ := hrel
      have HT2 := Lib.hid (HT1.out.below HBW.out)
      clear a0 a1 a2 b0 b1 b2 hl1 hl2
      obtain ⟨a0, a1, a2, _, _, _, hl1⟩ := HT2.out.a.cells
      obtain ⟨b0, b1, b2, _, _, _, hl2⟩ := HT2.out.b.cells
      by_cases hlt : j < N
      · have hjL : j < LS.length := by rw [HNN.out]; exact hlt
        have hc := (HBW.out.cell (p := ⟨g, j, none⟩) hg2).trans (HGC.out j hjL)
        have HNO : Hid (okPc n m LS[j] = false → okMs n m s = false) := fun h => by
          rw [HE.out, List.all_eq_false.2 ⟨LS[j], List.getElem_mem hjL, by simp [h]⟩]; rfl
        have HGO : Hid (okPc n m LS[j] = true → ∀ z (hz : z < LS.length), z < j + 1 → okPc n m LS[z] = true) := fun h z hz h2 => by
          by_cases hzj : z = j
          · subst hzj; exact h
          · exact HK.out z hz (by omega)
        have hjI : (j : Int) < (N : Int) := by omega
        generalize LS[j] = PJ at *
        clear HK
        by_cases h2 : PJ.size = 2
        · obtain ⟨x, y, rfl⟩ := pc_two h2
          have hxy : okPc n m ⟨#[x, y]⟩ = okMv n m x y := rfl
          rw [hxy] at HNO HGO
          clear hxy h2
          have i0 : (⟨#[x, y]⟩ : ByteArray).size = 2 := rfl
          have hX : ((⟨#[x, y]⟩ : ByteArray)[0]'(by show 0 < 2; decide)).toNat = x.toNat := rfl
          have hY : ((⟨#[x, y]⟩ : ByteArray)[1]'(by show 1 < 2; decide)).toNat = y.toNat := rfl
          have hBY : y.toNat < 256 := y.toNat_lt
          by_cases hxa : x.toNat = 97
          · have hxI : (x.toNat : Int) = 97 := by omega
            have HIA := Lib.hid (fun W => HIN.out ((y.toNat : Int) - 48) 0 ((n : Int) - 1) W)
            obtain ⟨c, hc2⟩ : ∃ c, inB ((y.toNat : Int) - 48) 0 ((n : Int) - 1) = c := ⟨_, rfl⟩
            rw [hc2] at HIA
            have HCC := Lib.hid hc2
            clear hc2 HIN
            cases c
            · have HF : Hid (okMs n m s = false) := HNO.out (okMv_no (by have := HCC.out; unfold inB at this; simp at this; omega))
              clear HNO HGO HCC
              go_wp2_with fail
              refine (HIA.out _).mono ?_; rintro e w2 ⟨rfl, hb⟩
              have HT3 := Lib.hid (HT2.out.below hb); clear hb
              go_wp2_with fail
              go_ret2
              exact HMN.out _ _ HF.out HT3.out.old
            · have HF := Lib.hid (HGO.out (okMv_yes (by have := HCC.out; unfold inB at this; simp at this; omega)))
              clear HNO HGO HCC
              go_wp2_with fail
              refine (HIA.out _).mono ?_; rintro e w2 ⟨rfl, hb⟩
              have HB3 := Lib.hid (HBW.out.trans (hb.mono HBW.out.size)); clear hb
              go_wp2_with fail
              go_roundw
              case rel => exact ⟨j + 1, by omega, by go_num, HB3.out, HF.out⟩
              case measure => simp [intOf]; omega
          · by_cases hxb : x.toNat = 98
            · have hxI : (x.toNat : Int) = 98 := by omega
              have HIA := Lib.hid (fun W => HIN.out ((y.toNat : Int) - 48) 0 ((m : Int) - 1) W)
              obtain ⟨c, hc2⟩ : ∃ c, inB ((y.toNat : Int) - 48) 0 ((m : Int) - 1) = c := ⟨_, rfl⟩
              rw [hc2] at HIA
              have HCC := Lib.hid hc2
              clear hc2 HIN hxa
              cases c
              · have HF : Hid (okMs n m s = false) := HNO.out (okMv_no (by have := HCC.out; unfold inB at this; simp at this; omega))
                clear HNO HGO HCC
                go_wp2_with fail
                refine (HIA.out _).mono ?_; rintro e w2 ⟨rfl, hb⟩
                have HT3 := Lib.hid (HT2.out.below hb); clear hb
                go_wp2_with fail
                go_ret2
                exact HMN.out _ _ HF.out HT3.out.old
              · have HF := Lib.hid (HGO.out (okMv_yes (by have := HCC.out; unfold inB at this; simp at this; omega)))
                clear HNO HGO HCC
                go_wp2_with fail
                refine (HIA.out _).mono ?_; rintro e w2 ⟨rfl, hb⟩
                have HB3 := Lib.hid (HBW.out.trans (hb.mono HBW.out.size)); clear hb
                go_wp2_with fail
                go_roundw
                case rel => exact ⟨j + 1, by omega, by go_num, HB3.out, HF.out⟩
                case measure => simp [intOf]; omega
            · have HF : Hid (okMs n m s = false) := HNO.out (okMv_no (by omega))
              have hxI : ¬ (x.toNat : Int) = 97 := by omega
              have hxI2 : ¬ (x.toNat : Int) = 98 := by omega
              have e1 : ((x.toNat : Int) == 97) = false := by simp; omega
              have e2 : ((x.toNat : Int) == 98) = false := by simp; omega
              have e3 : ((x.toNat : Int) != 97) = true := by simp; omega
              have e4 : ((x.toNat : Int) != 98) = true := by simp; omega
              clear HNO HGO HIN
              go_wp2_with fail
              go_ret2
              exact HMN.out _ _ HF.out HT2.out.old
        · have HR : Hid (okMs n m s = false) := HNO.out (pc_no h2)
          have h2I : ¬ (PJ.size : Int) = 2 := by omega
          clear HNO HGO
          go_wp2_with fail
          go_ret2
          exact HMN.out _ _ HR.out HT2.out.old
      · have hjN : j = N := by omega
        have HA : Hid (okMs n m s = decide (N ≤ 3)) := by
          show _ = _
          rw [HE.out, List.all_eq_true.2 (fun p hp => by obtain ⟨z, hz, rfl⟩ := List.mem_iff_getElem.1 hp; exact HK.out z hz (by have := HNN.out; omega)), Bool.true_and, HNN.out]
        have hjI : ¬ (j : Int) < (N : Int) := by omega
        clear HK
        by_cases h3 : N ≤ 3
        · have h3I : (N : Int) ≤ 3 := by omega
          have h3D : decide ((N : Int) ≤ 3) = true := decide_eq_true h3I
          go_wp2_with fail
          go_ret2
          refine ⟨.slice (some ⟨g, 0, none⟩) N cap, by rw [HA.out, decide_eq_true h3]; rfl, HT2.out.old, fun _ => ?_⟩
          refine ⟨g, cap, by rw [HMV.out, HNN.out], HG1.out, Nat.lt_of_lt_of_le hg2 HBW.out.size, by rw [HMV.out, HNN.out]; exact hg3, by unfold maxLen; exact hg4, fun j h => ?_⟩
          have e := HMV.out
          subst e
          exact (HBW.out.cell (p := ⟨g, j, none⟩) hg2).trans (HGC.out j h)
        · have h3I : ¬ (N : Int) ≤ 3 := by omega
          have h3D : decide ((N : Int) ≤ 3) = false := decide_eq_false h3I
          have HF : Hid (okMs n m s = false) := by show _ = _; rw [HA.out, decide_eq_false h3]
          go_wp2_with fail
          go_ret2
          exact HMN.out _ _ HF.out HT2.out.old
end Go.Proofs.YthmhjihppbeodaaGreatDoor
