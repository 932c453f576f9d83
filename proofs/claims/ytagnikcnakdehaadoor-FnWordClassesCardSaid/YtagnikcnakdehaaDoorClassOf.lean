/- ClassOfWord of the program and of the reference, and the walk of the law FnExactClassOfWord. Condition: the text's length fits an integer. -/
import Derived.Test.YtagnikcnakdehaaDoorClassS4
import Derived.Test.YtagnikcnakdehaaDoorClsP2
import Derived.Test.YtagnikcnakdehaaDoorSameW2
namespace Go.Proofs.YtagnikcnakdehaaDoor
open Go.RowKit
set_option linter.unusedVariables false

/-- What ClassOfWord returns. -/
def classRes (s : ByteArray) (K : Int) : ByteArray := if wordB s && inB K 0 2 then firstW K.toNat s else ByteArray.empty
theorem classRes_no1 {s : ByteArray} {K : Int} (h : wordB s = false) : classRes s K = ByteArray.empty := by unfold classRes; rw [h]; rfl
theorem classRes_no2 {s : ByteArray} {K : Int} (h : inB K 0 2 = false) : classRes s K = ByteArray.empty := by unfold classRes; rw [h, Bool.and_false]; rfl
theorem classRes_yes {s : ByteArray} {k : Nat} (h : wordB s = true) (hk : k ≤ 2) : classRes s (k : Int) = firstW k s := by
  unfold classRes
  rw [h, inB_true (by omega) (by omega)]; rfl

set_option maxHeartbeats 1000000 in
theorem implClassOf_any (s : ByteArray) (K : Int) (w : World) (hs : s.size ≤ 9223372036854775807) : Calls Tryd.prog 16 #[.string s, .int .i64 K] w (TxtB w (classRes s K)) := by
  have HI := Lib.hid (fun w => isWord_any s w hs)
  cases hw : wordB s
  · rw [hw] at HI
    rw [classRes_no1 hw]
    clear hw
    go_enter Tryd.func16, Tryd.ntmps16
    go_wp2_with fail
    refine (HI.out _).mono ?_; rintro e w1 ⟨rfl, hb⟩
    have HB1 := Lib.hid hb; clear hb
    go_wp2_with fail
    go_ret
    exact ⟨rfl, HB1.out⟩
  · rw [hw] at HI
    by_cases h0 : K < 0
    · rw [classRes_no2 (inB_lo (by omega))]
      clear hw
      go_enter Tryd.func16, Tryd.ntmps16
      go_wp2_with fail
      refine (HI.out _).mono ?_; rintro e w1 ⟨rfl, hb⟩
      have HB1 := Lib.hid hb; clear hb
      go_wp2_with fail
      go_ret
      exact ⟨rfl, HB1.out⟩
    · by_cases h2 : 2 < K
      · rw [classRes_no2 (inB_hi (by omega))]
        clear hw
        go_enter Tryd.func16, Tryd.ntmps16
        go_wp2_with fail
        refine (HI.out _).mono ?_; rintro e w1 ⟨rfl, hb⟩
        have HB1 := Lib.hid hb; clear hb
        go_wp2_with fail
        go_ret
        exact ⟨rfl, HB1.out⟩
      · obtain ⟨k, rfl⟩ := Int.eq_ofNat_of_zero_le (show 0 ≤ K by omega)
        have hk : k ≤ 2 := by omega
        obtain ⟨s1, s8⟩ := wordSt_valid hw
        rw [classRes_yes hw hk]
        have HU := Lib.hid (fun w => wordsUpTo_any s.size w s8)
        have hul : Hid ((upTo s.size).length ≤ 1000) := by
          have h1 := upTo_length s.size
          have h2 : 2 ^ (s.size + 1) ≤ 2 ^ 9 := Nat.pow_le_pow_right (by decide) (by omega)
          show _ ≤ _
          omega
        have HF := Lib.hid (fun v w (h : TextsAt w v (upTo s.size)) => firstLike_any v (upTo s.size) s k w h (fun x hx => by have := upTo_size _ x hx; omega) s8 (by omega) hul.out)
        have e : firstL k (upTo s.size) s = firstW k s := rfl
        rw [e] at HF
        clear e hw
        go_enter Tryd.func16, Tryd.ntmps16
        go_wp2_with fail
        refine (HI.out _).mono ?_; rintro e w1 ⟨rfl, hb⟩
        have HB1 := Lib.hid hb; clear hb
        go_wp2_with fail
        refine (HU.out _).mono ?_; rintro e w2 ⟨v, rfl, hv, hb⟩
        have HV := Lib.hid hv
        have HB2 := Lib.hid (HB1.out.trans (hb.mono HB1.out.size)); clear hb hv
        go_wp2_with fail
        refine (HF.out v _ HV.out.texts).mono ?_; rintro e w3 ⟨rfl, hb⟩
        have HB3 := Lib.hid (HB2.out.trans (hb.mono HB2.out.size)); clear hb
        go_wp2_with fail
        go_ret
        exact ⟨rfl, HB3.out⟩

set_option maxRecDepth 100000 in
set_option maxHeartbeats 1000000 in
theorem specClassOf_yes (s : ByteArray) (k : Nat) (w : World) (hs : wordB s = true) (hk : k ≤ 2) : Calls Tryd.prog 15 #[.string s, .int .i64 (k : Int)] w (TxtB w (firstW k s)) := by
  obtain ⟨s1, s8⟩ := wordSt_valid hs
  have HI := Lib.hid (fun w => specWordValid_any s w (by omega))
  rw [hs] at HI
  have HIN := Lib.hid (fun w => l1In_any (k : Int) 0 2 w)
  rw [inB_true (by omega) (by omega)] at HIN
  have HR : Hid (∀ i, i < (clsL k (upTo s.size)).length → (∀ j, j < i → likeW k ((clsL k (upTo s.size)).getD j ByteArray.empty) s = false) → likeW k ((clsL k (upTo s.size)).getD i ByteArray.empty) s = true → (clsL k (upTo s.size)).getD i ByteArray.empty = firstW k s) := by
    intro i hi h1 h2
    show _ = ((upTo s.size).find? fun v => likeW k v s).getD ByteArray.empty
    rw [← cls_find, find_take (p := fun v => likeW k v s) hi h1 h2]; rfl
  have HN : Hid ((∀ j, j < (clsL k (upTo s.size)).length → likeW k ((clsL k (upTo s.size)).getD j ByteArray.empty) s = false) → False) := by
    intro h
    have h1 := find_no (p := fun v => likeW k v s) h
    obtain ⟨v, h2, _⟩ := first_find (k := k) hs
    rw [cls_find, h2] at h1
    cases h1
  have HLL : Hid ((clsL k (upTo s.size)).length ≤ 510) := by
    have h1 := clsL_length k _ (upTo s.size) rfl
    have h2 := upTo_length s.size
    have h3 : 2 ^ (s.size + 1) ≤ 2 ^ 9 := Nat.pow_le_pow_right (by decide) (by omega)
    show _ ≤ _
    omega
  have HUL : Hid ((upTo s.size).length ≤ 510) := by
    have h2 := upTo_length s.size
    have h3 : 2 ^ (s.size + 1) ≤ 2 ^ 9 := Nat.pow_le_pow_right (by decide) (by omega)
    show _ ≤ _
    omega
  obtain ⟨RES, hres⟩ : ∃ p, firstW k s = p := ⟨_, rfl⟩
  rw [hres] at HR ⊢
  clear hs hres
  go_enter Tryd.func15, Tryd.ntmps15
  go_wp2_with fail
  refine (HI.out _).mono ?_; rintro e w' ⟨rfl, rfl⟩
  go_wp2_with fail
  refine (HIN.out _).mono ?_; rintro e w' ⟨rfl, rfl⟩
  go_wp2_with fail
  refine (l5New_any _).mono ?_; rintro e w1 ⟨gL, gC, F0, vs0, rfl, ht, hb, hF⟩
  have HFF := Lib.hid hF
  have HB1 := Lib.hid hb
  have HLT := Lib.hid ht.lt
  have HTB := Lib.hid ht
  clear hb hF ht
  have HT1 := Lib.hid (HTB.out.below ((Below.refl w1.heap.size w1).alloc (Nat.le_refl _) (.cells #[.slice (some ⟨gL, 0, none⟩) 997 997, .slice (some ⟨gC, 0, none⟩) 1 1] 80)))
  have HX1 : Hid ((w1.alloc (.cells #[.slice (some ⟨gL, 0, none⟩) 997 997, .slice (some ⟨gC, 0, none⟩) 1 1] 80)).heap[w1.heap.size]? = some (.cells #[.slice (some ⟨gL, 0, none⟩) 997 997, .slice (some ⟨gC, 0, none⟩) 1 1] 80 (0, 0))) := heap_alloc_new w1 _
  have HBA : Hid (Below w.heap.size w (w1.alloc (.cells #[.slice (some ⟨gL, 0, none⟩) 997 997, .slice (some ⟨gC, 0, none⟩) 1 1] 80))) := HB1.out.alloc HB1.out.size _
  unfold tblV
  go_wp2_with fail
  refine (l12Classes_any s.size k gL gC F0 vs0 [] _ (by omega) hk HT1.out (by simp)).mono ?_; rintro e w2 ⟨v, u, T, F, vs, E, rfl, hc⟩
  have HSA := Lib.hid hc.mem
  have HTYP := Lib.hid hc.types
  have HFEW := Lib.hid hc.few
  have htv := heapOff HX1.out hc.mem.old (fun e => by have := HLT.out _ e; omega)
  have htf : ¬ F w1.heap.size := fun e => by
    rcases hc.mem.new _ e with h | h
    · have := HLT.out _ h; omega
    · simp at h; omega
  have HTV0 := Lib.hid htv
  clear hc
  have H12 := Lib.hid (fun W => l12Structure_any s W s8)
  have hty : ∀ W (b : Nat), Below w2.heap.size w2 W → b < W.heap.size → w2.heap.size ≤ b → Calls Tryd.prog 68 #[tblV gL gC, wordV s, .slice (some ⟨b, 0, none⟩) 0 0, .int .i64 (k : Int)] W (Typed gL gC F ([] ++ E) (wSt s) k [] W) := by
    intro W b hW hb1 hb2
    refine l5Type_any k (by omega) gL gC F vs ([] ++ E) s.size (bitsOf (letB s) s.size) (gridOf ltB s.size) _ [] W ⟨HSA.out.tbl.below hW, ?_, bitsOf_size _ _, grid_size _ _, s8, emptyAt hb1 (by decide), ?_, by simp; omega, by simp⟩
    · have h1 := callsLe s.size k s8 (by omega)
      have h2 := HFEW.out
      have h3 := HUL.out
      rw [List.nil_append]
      omega
    · intro j hj e
      obtain rfl := Option.some.inj hj
      have e1 : (⟨b, 0, none⟩ : Addr).block = b := rfl
      have := HSA.out.tbl.lt _ e
      omega
  unfold tblV at hty
  have HTY := Lib.hid hty
  have HTF := Lib.hid htf
  clear hty htf
  have KS : Hid (∀ w' : World, w'.heap[w1.heap.size]? = some (.cells #[.slice (some ⟨gL, 0, none⟩) 997 997, .slice (some ⟨gC, 0, none⟩) 1 1] 80 (0, 0)) → (w'.cell? ⟨w1.heap.size, 0, none⟩ = some (.slice (some ⟨gL, 0, none⟩) 997 997) ∧ w'.cell? ⟨w1.heap.size, 1, none⟩ = some (.slice (some ⟨gC, 0, none⟩) 1 1))) := by
    intro w' h
    constructor <;> simp [World.cell?, h]
  have HTV : Hid (w2.drew.heap[w1.heap.size]? = some (.cells #[.slice (some ⟨gL, 0, none⟩) 997 997, .slice (some ⟨gC, 0, none⟩) 1 1] 80 (0, 0))) := HTV0.out
  have q0 := (KS.out w2 HTV0.out).1
  have q1 := (KS.out w2 HTV0.out).2
  clear htv
  go_wp2_with fail
  go_region_held3 (fun w' => w'.cell? ⟨w1.heap.size, 0, none⟩ = some (.slice (some ⟨gL, 0, none⟩) 997 997) ∧ w'.cell? ⟨w1.heap.size, 1, none⟩ = some (.slice (some ⟨gC, 0, none⟩) 1 1))
    (first | exact KS.out _ HTV.out | exact KS.out _ (heapKeep HTV.out _) | go_keep)
    (first | ((with_reducible refine (H12.out _).mono ?_); rintro e w3 ⟨rfl, hb⟩; have HB2 : Hid (Below w2.heap.size w2 w3) := (by first | exact ((Below.refl w2.heap.size w2).drew.trans (hb.mono (Nat.le_refl _))) | exact ((below1 w2 _).trans (hb.mono (by simp)))); have hz2 := hb.size; simp at hz2; have HZ2 := Lib.hid hz2; have HTV := Lib.hid (heapBelow HTV0.out HB2.out); clear hb hz2) | ((with_reducible refine (HTY.out _ _ ?_ ?_ ?_).mono ?_); (first | exact HB2.out | exact HB2.out.alloc HB2.out.size _); (first | exact allocLt _ _ | (have := HZ2.out; omega)); (have := HB2.out.size; omega); rintro e w4 ⟨num, F2, vs2, E2, rfl, ht, hE, hn2, hoff, hF2⟩; have HM3 : Hid (ClsMem (w1.alloc (.cells #[.slice (some ⟨gL, 0, none⟩) 997 997, .slice (some ⟨gC, 0, none⟩) 1 1] 80)) w4 gL gC F0 F2 ([] ++ E ++ E2) vs2 (clsL k (upTo s.size)) v u T) := (by first | exact (HSA.out.below HB2.out).typed ht hoff hF2 | exact (HSA.out.below (HB2.out.alloc HB2.out.size _)).typed ht hoff hF2); have HN2 := Lib.hid hn2; have HTV := Lib.hid (heapOff (by first | exact heapBelow HTV0.out HB2.out | exact heapBelow HTV0.out (HB2.out.alloc HB2.out.size _)) hoff HTF.out); clear ht hE hn2 hoff hF2))
  all_goals
    have HBE : Hid (Below w.heap.size w w4) := HBA.out.trans (HM3.out.old.below HBA.out.size HFF.out)
    have HEQ : Hid (∀ i, i < (clsL k (upTo s.size)).length → (((T.getD i 0 : Nat) : Int) == (num : Int)) = likeW k ((clsL k (upTo s.size)).getD i ByteArray.empty) s) := fun i hi =>
      wins_num HM3.out.tbl.nodup rfl (HTYP.out.more.2 i hi) HN2.out
    obtain ⟨av, cv, rfl, hv1, hv2, hvc⟩ := HM3.out.words.texts.view
    obtain ⟨au, cu, rfl, hu1, hu2, huc⟩ := HM3.out.seen.nums.view
    have HVC := Lib.hid hvc
    have HUC := Lib.hid huc
    have hTL : T.length = (clsL k (upTo s.size)).length := HTYP.out.1
    unfold maxLen at hv2 hu2
    have hLL := HLL.out
    obtain ⟨L, hL⟩ : ∃ L, clsL k (upTo s.size) = L := ⟨_, rfl⟩
    rw [hL] at HR HN HEQ HVC hTL hv1 hLL ⊢
    clear hvc huc HTY H12 KS HTV HTV0 HSA HTYP HFEW hL HM3 HN2 HLL
    rw [hTL] at hu1 ⊢
    have HTL := Lib.hid hTL
    have hlI : (L.length : Int) ≤ 510 := by omega
    go_wp2_with fail
    go_loop [9] (fun i => ∃ j : Nat, j ≤ L.length ∧ i = .int .i64 j ∧ Hid (∀ m, m < j → likeW k (L.getD m ByteArray.empty) s = false)) (fun i => L.length - (intOf i).toNat)
    case atStart => exact ⟨0, by omega, rfl, fun m hm => by omega⟩
    case round =>
      obtain ⟨j, hj, rfl, HK⟩ := hrel
      by_cases hlt : j < L.length
      · obtain ⟨gv, ov, rfl, hgv, hcv⟩ := HVC.out (by omega)
        obtain ⟨gu, ou, rfl, hgu, hcu⟩ := HUC.out (by have := HTL.out; omega)
        have d1 := hcv j hlt
        have d2 := hcu j (by have := HTL.out; omega)
        have e1 := HEQ.out j hlt
        have HF := Lib.hid (HR.out j hlt HK.out)
        have HN1 : Hid (likeW k (L.getD j ByteArray.empty) s = false → ∀ m, m < j + 1 → likeW k (L.getD m ByteArray.empty) s = false) := fun h m hm => by
          by_cases hmj : m = j
          · rw [hmj]; exact h
          · exact HK.out m (by omega)
        obtain ⟨x, hx⟩ : ∃ x, L.getD j ByteArray.empty = x := ⟨_, rfl⟩
        rw [hx] at d1 e1 HF HN1
        obtain ⟨b, hb⟩ : ∃ b, likeW k x s = b := ⟨_, rfl⟩
        rw [hb] at e1 HF HN1
        generalize T.getD j 0 = y at *
        clear hx hb hcv hcu
        cases b
        · go_wp2_with fail
          go_round
          case rel => exact ⟨j + 1, by omega, by go_num, HN1.out rfl⟩
          case measure => simp [intOf]; omega
        · go_wp2_with fail
          go_ret
          exact ⟨congrArg (fun s => Ending.returned (.string s)) (HF.out (by simp)), HBE.out⟩
      · exact absurd (fun m hm => HK.out m (by omega)) HN.out

set_option maxHeartbeats 1000000 in
theorem specClassOf_any (s : ByteArray) (K : Int) (w : World) (hs : s.size ≤ 9223372036854775807) : Calls Tryd.prog 15 #[.string s, .int .i64 K] w (TxtB w (classRes s K)) := by
  have HI := Lib.hid (fun w => specWordValid_any s w hs)
  have HIN := Lib.hid (fun w => l1In_any K 0 2 w)
  obtain ⟨b, hb⟩ : ∃ b, wordB s = b := ⟨_, rfl⟩
  cases b
  · rw [classRes_no1 hb]
    rw [hb] at HI
    clear hb hs
    go_enter Tryd.func15, Tryd.ntmps15
    go_wp2_with fail
    refine (HI.out _).mono ?_; rintro e w' ⟨rfl, rfl⟩
    go_wp2_with fail
    go_ret
    exact ⟨rfl, Below.refl _ _⟩
  · obtain ⟨c, hc⟩ : ∃ c, inB K 0 2 = c := ⟨_, rfl⟩
    cases c
    · rw [classRes_no2 hc]
      rw [hb] at HI
      rw [hc] at HIN
      clear hb hs hc
      go_enter Tryd.func15, Tryd.ntmps15
      go_wp2_with fail
      refine (HI.out _).mono ?_; rintro e w' ⟨rfl, rfl⟩
      go_wp2_with fail
      refine (HIN.out _).mono ?_; rintro e w' ⟨rfl, rfl⟩
      go_wp2_with fail
      go_ret
      exact ⟨rfl, Below.refl _ _⟩
    · have hK := inB_iff.1 hc
      obtain ⟨k, rfl⟩ := Int.eq_ofNat_of_zero_le hK.1
      rw [classRes_yes hb (by omega)]
      exact specClassOf_yes s k w hb (by omega)

theorem fnExactClassOfWord_walk (s : ByteArray) (K : Int) (w : World) (hs : s.size ≤ maxLen) (hK : (Lit.int .i64 K).wf = true) :
    Calls Tryd.prog 3 #[.string s, .int .i64 K] w fun e w' => e = .returned (.bool true) ∧ Below w.heap.size w w' := by
  have hs' : s.size ≤ 9223372036854775807 := hs
  have H1 := Lib.hid (fun w => specClassOf_any s K w hs')
  have H2 := Lib.hid (fun w => implClassOf_any s K w hs')
  clear hs hK
  generalize classRes s K = B at *
  by_cases h0 : (s.size : Int) ≤ 1048576
  · go_enter Tryd.func3, Tryd.ntmps3
    go_wp2_with fail
    refine (H1.out _).mono ?_; rintro e w1 ⟨rfl, hb⟩
    have HB1 := Lib.hid hb; clear hb
    go_wp2_with fail
    refine (H2.out _).mono ?_; rintro e w2 ⟨rfl, hb⟩
    have HB2 := Lib.hid (HB1.out.trans (hb.mono HB1.out.size)); clear hb
    go_wp2_with fail
    go_ret
    exact ⟨rfl, HB2.out⟩
  · go_enter Tryd.func3, Tryd.ntmps3
    go_wp2_with fail
    go_ret
    exact ⟨rfl, Below.refl _ _⟩
end Go.Proofs.YtagnikcnakdehaaDoor
