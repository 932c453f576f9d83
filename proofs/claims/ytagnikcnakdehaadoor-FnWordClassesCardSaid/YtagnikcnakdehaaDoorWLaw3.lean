/- The walk of the law FnWordClasses: it returns true. Condition: the bytes are readable. -/
import Derived.Test.YtagnikcnakdehaaDoorMarks
import Derived.Test.YtagnikcnakdehaaDoorWLaw1
namespace Go.Proofs.YtagnikcnakdehaaDoor
open Go.RowKit
set_option linter.unusedVariables false

theorem likes_take {k : Nat} {L : List ByteArray} {x : ByteArray} {i : Nat} (h : i < L.length) : likes k (L.take (i + 1)) x = likes k (L.take i) x + if likeW k (L.getD i ByteArray.empty) x then 1 else 0 := by
  have e : L.getD i ByteArray.empty = L[i] := by simp [h]
  rw [e, List.take_succ_eq_append_getElem h]
  unfold likes
  rw [List.filter_append, List.length_append]
  cases hb : likeW k L[i] x <;> simp [hb]
theorem likes_le (k : Nat) (L : List ByteArray) (x : ByteArray) : likes k L x ≤ L.length := List.length_filter_le _ _
/-- What the law asks of the classes. -/
structure ClsFacts (n k : Nat) (L : List ByteArray) : Prop where
  word : ∀ i, i < L.length → wordB (L.getD i ByteArray.empty) = true
  first : ∀ i, i < L.length → classRes (L.getD i ByteArray.empty) (k : Int) = L.getD i ByteArray.empty
  apart : ∀ i j, j < i → i < L.length → likeW k (L.getD i ByteArray.empty) (L.getD j ByteArray.empty) = false
  up : ∀ i j, j < i → i < L.length → (L.getD j ByteArray.empty).size ≤ (L.getD i ByteArray.empty).size
  one : ∀ x, wordB x = true → x.size ≤ n → likes k L x = 1
theorem clsFacts {n k : Nat} (hn : n ≤ 8) (hk : k ≤ 2) : ClsFacts n k (clsL k (upTo n)) := by
  have hm : ∀ i, i < (clsL k (upTo n)).length → (clsL k (upTo n)).getD i ByteArray.empty ∈ clsL k (upTo n) := fun i hi => by simp [hi]
  have hw : ∀ i, i < (clsL k (upTo n)).length → wordB ((clsL k (upTo n)).getD i ByteArray.empty) = true := fun i hi => upTo_word n _ hn (clsL_sub k _ _ rfl _ (hm i hi))
  refine ⟨hw, fun i hi => ?_, fun i j hj hi => ?_, fun i j hj hi => ?_, fun x hx hs => ?_⟩
  · rw [classRes_yes (hw i hi) hk]; exact cls_firstW hn (hm i hi)
  · have h := List.pairwise_iff_getElem.1 (cls_apart k (upTo n)) j i (by omega) hi hj
    rw [like_comm]
    have e1 : (clsL k (upTo n)).getD i ByteArray.empty = (clsL k (upTo n))[i] := by simp [hi]
    have e2 : (clsL k (upTo n)).getD j ByteArray.empty = (clsL k (upTo n))[j]'(by omega) := by simp [show j < (clsL k (upTo n)).length by omega]
    rw [e1, e2]; exact h
  · have h := List.pairwise_iff_getElem.1 (cls_up (k := k) (n := n)) j i (by omega) hi hj
    have e1 : (clsL k (upTo n)).getD i ByteArray.empty = (clsL k (upTo n))[i] := by simp [hi]
    have e2 : (clsL k (upTo n)).getD j ByteArray.empty = (clsL k (upTo n))[j]'(by omega) := by simp [show j < (clsL k (upTo n)).length by omega]
    rw [e1, e2]; exact h
  · exact likes_one k x _ (cls_apart k _) (cls_covers k _ x (wordB_mem hx n hs))

set_option maxRecDepth 100000 in
set_option maxHeartbeats 1000000 in
theorem fnWordClasses_walk (a0 : Option Addr) (len0 cap0 : Nat) (z0 : List Int) (a1 : Option Addr) (len1 cap1 : Nat) (z1 : List Int) (w : World) (w0 : IsRow .u8 w a0 len0 cap0 z0) (w1 : IsRow .u8 w a1 len1 cap1 z1) :
    Calls Tryd.prog 5 #[.slice a0 len0 cap0, .slice a1 len1 cap1] w fun e w' => e = .returned (.bool true) ∧ Below w.heap.size w w' := by
  have m0 := w0.len_le
  have m1 := w1.len_le
  unfold maxLen at m0 m1
  have W0 := Lib.hid w0; have W1 := Lib.hid w1; clear w0 w1
  by_cases l0 : (len0 : Int) ≤ 1048576
  · by_cases l1 : (len1 : Int) ≤ 1048576
    · go_enter Tryd.func5, Tryd.ntmps5
      go_wp2_with fail
      refine (DrawWordClasses_any _ _ _ _ _ W0.out).mono ?_; rintro e w1 ⟨n, K, rfl, hb⟩
      have HB1 := Lib.hid hb; clear hb
      have HI := Lib.hid (fun w => implClasses_any n K w)
      have HS := Lib.hid (fun w => specClasses_any n K w)
      have hl := clsRes_length n K
      go_wp2_with fail
      refine (HI.out _).mono ?_; rintro e w2 ⟨v, rfl, hv, hb⟩
      have HV := Lib.hid hv.texts
      have HB2 := Lib.hid (HB1.out.trans (hb.mono HB1.out.size)); clear hb hv
      go_wp2_with fail
      refine (HS.out _).mono ?_; rintro e w3 ⟨u, rfl, hu, hb⟩
      have HU := Lib.hid hu.texts
      have HV3 := Lib.hid (HV.out.below hb)
      have HB3 := Lib.hid (HB2.out.trans (hb.mono HB2.out.size)); clear hb hu
      by_cases hok : inB n 0 5 = true ∧ inB K 0 2 = true
      · obtain ⟨hn, hK⟩ := hok
        have e : clsRes n K = clsL K.toNat (upTo n.toNat) := by unfold clsRes; rw [hn, hK]; rfl
        rw [e] at HV3 HU hl
        have hn2 := inB_iff.1 hn
        have hK2 := inB_iff.1 hK
        obtain ⟨N, rfl⟩ := Int.eq_ofNat_of_zero_le hn2.1
        obtain ⟨k, rfl⟩ := Int.eq_ofNat_of_zero_le hK2.1
        rw [Int.toNat_natCast, Int.toNat_natCast] at HV3 HU hl
        have HF := Lib.hid (clsFacts (n := N) (k := k) (by omega) (by omega))
        obtain ⟨L, hL⟩ : ∃ L, clsL k (upTo N) = L := ⟨_, rfl⟩
        rw [hL] at HV3 HU HF hl
        have hk2 : k ≤ 2 := by omega
        have hN5 : (N : Int) ≤ 5 := by omega
        clear hn hK hn2 hK2 e hL HI HS
        obtain ⟨av, cv, rfl, hv1, hv2, hvc⟩ := HV3.out.view
        obtain ⟨au, cu, rfl, hu1, hu2, huc⟩ := HU.out.view
        have HVC := Lib.hid hvc
        have HUC := Lib.hid huc
        unfold maxLen at hv2 hu2
        clear hvc huc
        by_cases h0 : L.length = 0
        · have h0' : ((L.length : Int) == 0) = true := by simp; exact List.eq_nil_of_length_eq_zero h0
          go_wp2_with fail
          go_ret
          exact ⟨rfl, HB3.out⟩
        · have h0' : ((L.length : Int) == 0) = false := by simp; exact fun e => h0 (by rw [e]; rfl)
          have HSZ : Hid (∀ i, i < L.length → (L.getD i ByteArray.empty).size ≤ 8) := fun i hi => (wordB_size' (HF.out.word i hi)).2
          have hl62 : (L.length : Int) ≤ 62 := by omega
          obtain ⟨gv, ov, rfl, hgv, hcv⟩ := HVC.out (by omega)
          obtain ⟨gu, ou, rfl, hgu, hcu⟩ := HUC.out (by omega)
          have HCV := Lib.hid hcv
          have HCU := Lib.hid hcu
          clear hcv hcu HVC HUC HV3 HU HV
          go_wp2_with fail
          go_loopw [9] (fun q wr => ∃ i : Nat, i ≤ L.length ∧ q = .int .i64 i ∧ Hid (Below w3.heap.size w3 wr)) (fun q _ => L.length - (intOf q).toNat)
          case atStart => exact ⟨0, by omega, rfl, Below.refl _ _⟩
          case round =>
            obtain ⟨i, hi, rfl, HBW⟩ := hrel
            by_cases hlt : i < L.length
            · have d1 := (HBW.out.cell (p := ⟨gv, ov + i, none⟩) hgv).trans (HCV.out i hlt)
              have d2 := (HBW.out.cell (p := ⟨gu, ou + i, none⟩) hgu).trans (HCU.out i hlt)
              have HC := Lib.hid (fun W => implClassOf_any (L.getD i ByteArray.empty) (k : Int) W (by have := HSZ.out i hlt; omega))
              rw [HF.out.first i hlt] at HC
              unfold TxtB at HC
              have HAP := Lib.hid (HF.out.apart i)
              have HUP := Lib.hid (HF.out.up i)
              have hxw := HF.out.word i hlt
              have HSW : Hid (∀ j, j < i → ∀ w, Calls Tryd.prog 20 #[.string (L.getD i ByteArray.empty), .string (L.getD j ByteArray.empty), .int .i64 (k : Int)] w fun e w' => e = .returned (.bool false) ∧ Below w.heap.size w w') := fun j hj w => by
                have h := implSameWords_any (L.getD i ByteArray.empty) (L.getD j ByteArray.empty) (k : Int) w (by have := HSZ.out i hlt; omega) (by have := HSZ.out j (by omega); omega)
                rw [sameB_yes hxw (HF.out.word j (by omega)) (by omega), HAP.out j hj hlt] at h
                exact h
              have hx8 := HSZ.out i hlt
              obtain ⟨x, hx⟩ : ∃ x, L.getD i ByteArray.empty = x := ⟨_, rfl⟩
              have d0 := HCV.out i hlt
              rw [hx] at d0 d1 d2 HC HSW HUP hx8
              have D1 := Lib.hid d0
              have hilt : (i : Int) < (L.length : Int) := by omega
              clear hx hxw d0
              go_wp2_with fail
              have f1 := fun s => Since.cell d1 s
              have f2 := fun s => Since.cell d2 s
              refine wp_region_since (by kernel_rfl) (by kernel_rfl) ?_
              repeat (go_big_quiet_step ((with_reducible exact Since.call (HC.out _))))
              refine wpQuiet_nil ?_
              intro wo hb2
              have HBO := Lib.hid (HBW.out.trans (hb2.mono HBW.out.size))
              clear hb2 f1 f2 d1 d2
              go_wp2_with fail
              go_loopw [10] (fun q wr => ∃ j : Nat, j ≤ i ∧ q = .int .i64 j ∧ Hid (Below w3.heap.size w3 wr)) (fun q _ => i - (intOf q).toNat)
              case atStart => exact ⟨0, by omega, rfl, HBO.out⟩
              case round =>
                obtain ⟨j, hj, rfl, HBJ⟩ := hrel
                by_cases hji : j < i
                · have hjiI : (j : Int) < (i : Int) := by omega
                  have d1 := (HBJ.out.cell (p := ⟨gv, ov + i, none⟩) hgv).trans D1.out
                  have d3 := (HBJ.out.cell (p := ⟨gv, ov + j, none⟩) hgv).trans (HCV.out j (by omega))
                  have HSJ := Lib.hid (HSW.out j hji)
                  have hle := HUP.out j hji hlt
                  obtain ⟨y, hy⟩ : ∃ y, L.getD j ByteArray.empty = y := ⟨_, rfl⟩
                  rw [hy] at d3 HSJ hle
                  have hleI : ¬ ((x.size : Int) < (y.size : Int)) := by omega
                  have hjL : (j : Int) < (L.length : Int) := by omega
                  clear hy
                  go_wp2_with fail
                  have f1 := fun s => Since.cell d1 s
                  have f3 := fun s => Since.cell d3 s
                  refine wp_region_since (by kernel_rfl) (by kernel_rfl) ?_
                  repeat (go_big_quiet_step ((with_reducible exact Since.call (HSJ.out _))))
                  refine wpQuiet_nil ?_
                  intro w5 hb2
                  have HB5 := Lib.hid (HBJ.out.trans (hb2.mono HBJ.out.size))
                  clear hb2 f1 f3 d1 d3
                  go_wp2_with fail
                  go_roundw
                  case rel => exact ⟨j + 1, by omega, by go_num, HB5.out⟩
                  case measure => simp [intOf]; omega
                · have hjiI : ¬ (j : Int) < (i : Int) := by omega
                  go_wp2_with fail
                  go_roundw
                  case rel => exact ⟨i + 1, by omega, by go_num, HBJ.out⟩
                  case measure => simp [intOf]; omega
            · have hBI : Hid (Below w.heap.size w wr) := HB3.out.trans (HBW.out.mono HB3.out.size)
              go_wp2_with fail
              refine (DrawWordValid_any _ _ _ _ _ (W1.out.below hBI.out)).mono ?_; rintro e w4 ⟨t, ht, rfl, hb⟩
              have HB4 := Lib.hid (hBI.out.trans (hb.mono hBI.out.size))
              have HBV := Lib.hid (HBW.out.trans (hb.mono HBW.out.size)); clear hb
              have hT : t.size ≤ 9223372036854775807 := by omega
              have HV := Lib.hid (fun W => implWordValid_any t W hT)
              obtain ⟨b, hb⟩ : ∃ b, wordB t = b := ⟨_, rfl⟩
              rw [hb] at HV
              cases b
              · go_wp2_with fail
                refine (HV.out _).mono ?_; rintro e w5 ⟨rfl, hb5⟩
                have HB5 := Lib.hid (HB4.out.trans (hb5.mono HB4.out.size)); clear hb5
                go_wp2_with fail
                go_ret
                exact ⟨rfl, HB5.out⟩
              · by_cases htN : (N : Int) < (t.size : Int)
                · go_wp2_with fail
                  refine (HV.out _).mono ?_; rintro e w5 ⟨rfl, hb5⟩
                  have HB5 := Lib.hid (HB4.out.trans (hb5.mono HB4.out.size)); clear hb5
                  go_wp2_with fail
                  go_ret
                  exact ⟨rfl, HB5.out⟩
                · have htd : decide (N < t.size) = false := decide_eq_false (by omega)
                  have HONE := Lib.hid (HF.out.one t hb (by omega))
                  have HSW : Hid (∀ j, j < L.length → ∀ w, Calls Tryd.prog 20 #[.string (L.getD j ByteArray.empty), .string t, .int .i64 (k : Int)] w fun e w' => e = .returned (.bool (likeW k (L.getD j ByteArray.empty) t)) ∧ Below w.heap.size w w') := fun j hj w => by
                    have h := implSameWords_any (L.getD j ByteArray.empty) t (k : Int) w (by have := HSZ.out j hj; omega) hT
                    rw [sameB_yes (HF.out.word j hj) hb (by omega)] at h
                    exact h
                  clear hb
                  go_wp2_with fail
                  refine (HV.out _).mono ?_; rintro e w5 ⟨rfl, hb5⟩
                  have HB5 := Lib.hid (HB4.out.trans (hb5.mono HB4.out.size))
                  have HBV5 := Lib.hid (HBV.out.trans (hb5.mono HBV.out.size)); clear hb5
                  have hgv5 : gv < w5.heap.size := Nat.lt_of_lt_of_le hgv HBV5.out.size
                  obtain ⟨wo, rfl⟩ : ∃ wo : World, wo = wr := ⟨_, rfl⟩
                  go_wp2_with fail
                  go_loopw [12, 13] (fun c q wr => ∃ j : Nat, j ≤ L.length ∧ q = .int .i64 j ∧ c = .int .i64 ((likes k (L.take j) t : Nat) : Int) ∧ Hid (Below w3.heap.size w3 wr) ∧ Hid (Below w.heap.size w wr)) (fun _ q _ => L.length - (intOf q).toNat)
                  case atStart => exact ⟨0, by omega, rfl, rfl, HBV5.out, HB5.out⟩
                  case round =>
                    obtain ⟨j, hj, rfl, rfl, HBJ, HBE⟩ := hrel
                    by_cases hjl : j < L.length
                    · have hjI : (j : Int) < (L.length : Int) := by omega
                      have d1 := (HBJ.out.cell (p := ⟨gv, ov + j, none⟩) hgv).trans (HCV.out j hjl)
                      have HC := Lib.hid (HSW.out j hjl)
                      have HLK := Lib.hid (likes_take (k := k) (x := t) hjl)
                      have hlk := Nat.le_trans (likes_le k (L.take j) t) (List.length_take_le _ _)
                      obtain ⟨y, hy⟩ : ∃ y, L.getD j ByteArray.empty = y := ⟨_, rfl⟩
                      rw [hy] at d1 HC HLK
                      obtain ⟨b, hb⟩ : ∃ b, likeW k y t = b := ⟨_, rfl⟩
                      rw [hb] at HC HLK
                      obtain ⟨c0, hc0⟩ : ∃ c, likes k (L.take j) t = c := ⟨_, rfl⟩
                      rw [hc0] at HLK hlk ⊢
                      clear hy hb hc0
                      cases b
                      · have HLK2 : Hid (c0 = likes k (L.take (j + 1)) t) := by show _ = _; rw [HLK.out]; rfl
                        go_wp2_with fail
                        refine (HC.out _).mono ?_; rintro e w6 ⟨rfl, hb6⟩
                        have HBJ6 := Lib.hid (HBJ.out.trans (hb6.mono HBJ.out.size))
                        have HBE6 := Lib.hid (HBE.out.trans (hb6.mono HBE.out.size)); clear hb6
                        go_wp2_with fail
                        go_roundw
                        case rel => exact ⟨j + 1, by omega, by go_num, by rw [HLK2.out], HBJ6.out, HBE6.out⟩
                        case measure => simp [intOf]; omega
                      · have HLK2 : Hid (((likes k (L.take (j + 1)) t : Nat) : Int) = (c0 : Int) + 1) := by show _ = _; rw [HLK.out]; simp
                        go_wp2_with fail
                        refine (HC.out _).mono ?_; rintro e w6 ⟨rfl, hb6⟩
                        have HBJ6 := Lib.hid (HBJ.out.trans (hb6.mono HBJ.out.size))
                        have HBE6 := Lib.hid (HBE.out.trans (hb6.mono HBE.out.size)); clear hb6
                        go_wp2_with fail
                        go_roundw
                        case rel => exact ⟨j + 1, by omega, by go_num, by rw [HLK2.out], HBJ6.out, HBE6.out⟩
                        case measure => simp [intOf]; omega
                    · have hjI : ¬ (j : Int) < (L.length : Int) := by omega
                      have hjn : j = L.length := by omega
                      subst hjn
                      have hone : likes k (L.take L.length) t = 1 := by rw [List.take_length]; exact HONE.out
                      rw [hone]
                      go_wp2_with fail
                      go_ret
                      exact ⟨rfl, HBE.out⟩
      · have e : clsRes n K = [] := by unfold clsRes; rw [if_neg]; simpa using hok
        rw [e] at HV3 HU
        obtain ⟨av, cv, rfl, hv1, hv2, hvc⟩ := HV3.out.view
        obtain ⟨au, cu, rfl, hu1, hu2, huc⟩ := HU.out.view
        clear hvc huc
        go_wp2_with fail
        go_ret
        exact ⟨rfl, HB3.out⟩
    · go_enter Tryd.func5, Tryd.ntmps5
      go_wp2_with fail
      go_ret
      exact ⟨rfl, Below.refl _ _⟩
  · go_enter Tryd.func5, Tryd.ntmps5
    go_wp2_with fail
    go_ret
    exact ⟨rfl, Below.refl _ _⟩
end Go.Proofs.YtagnikcnakdehaaDoor
