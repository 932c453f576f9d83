/- The reference's l12Classes: the first word of each class, and their numbers. Conditions: at most eight letters, at most two rounds. -/
import Derived.Test.YtagnikcnakdehaaDoorClassS3
namespace Go.Proofs.YtagnikcnakdehaaDoor
open Go.RowKit
set_option linter.unusedVariables false

/-- What l12Classes leaves. -/
def ClsPost (w : World) (gL gC k : Nat) (F0 : Nat → Prop) (E0 : List (List UInt8)) (P : List ByteArray) (e : Ending) (w' : World) : Prop :=
  ∃ v u T F vs E, e = .returned (.tuple #[v, u]) ∧ ClsInv w w' gL gC k F0 F E0 E vs P v u T
theorem emptyAt {w : World} {g cap : Nat} (hg : g < w.heap.size) (hc : cap ≤ maxLen) : NumsAt w (.slice (some ⟨g, 0, none⟩) 0 cap) [] :=
  .inr ⟨g, 0, cap, rfl, Nat.zero_le _, hc, hg, fun j hj => absurd hj (by simp)⟩
theorem allocLt (w : World) (o : Obj) : w.heap.size < (w.alloc o).heap.size := by simp
theorem callsLe (n k : Nat) (hn : n ≤ 8) (hk : k ≤ 3) : callsN n k ≤ 585 := by
  have h0 : callsN n 0 = 1 := rfl
  have h1 : callsN n 1 = n * 1 + 1 := rfl
  have h2 : callsN n 2 = n * (n * 1 + 1) + 1 := rfl
  have h3 : callsN n 3 = n * (n * (n * 1 + 1) + 1) + 1 := rfl
  have a1 : n * 1 + 1 ≤ 9 := by omega
  have a2 : n * (n * 1 + 1) ≤ 8 * 9 := Nat.mul_le_mul hn a1
  have a3 : n * (n * (n * 1 + 1) + 1) ≤ 8 * 73 := Nat.mul_le_mul hn (by omega)
  rcases (show k = 0 ∨ k = 1 ∨ k = 2 ∨ k = 3 by omega) with rfl | rfl | rfl | rfl <;> omega
theorem ClsInv.start {w : World} {gL gC k : Nat} {F0 : Nat → Prop} {E0 : List (List UInt8)} {vs0 : Array Value} (ht : Tbl w gL gC F0 vs0 E0) :
    ClsInv w (((w.alloc (.cells #[.slice (some ⟨gL, 0, none⟩) 997 997, .slice (some ⟨gC, 0, none⟩) 1 1] 80)).alloc (.cells #[] 9)).alloc (.cells #[] 3)) gL gC k F0 F0 E0 [] vs0 (upTo 0) (.slice (some ⟨w.heap.size + 1, 0, none⟩) 0 0) (.slice (some ⟨w.heap.size + 2, 0, none⟩) 0 0) [] := by
  have b1 : Below w.heap.size w (w.alloc (.cells #[.slice (some ⟨gL, 0, none⟩) 997 997, .slice (some ⟨gC, 0, none⟩) 1 1] 80)) := (Below.refl _ _).alloc (Nat.le_refl _) _
  have b3 : Below w.heap.size w (((w.alloc (.cells #[.slice (some ⟨gL, 0, none⟩) 997 997, .slice (some ⟨gC, 0, none⟩) 1 1] 80)).alloc (.cells #[] 9)).alloc (.cells #[] 3)) := (b1.alloc (by simp) _).alloc (by simp; omega) _
  refine ⟨⟨?_, fun b hb => .inl hb, ?_, ?_, ?_, ?_, ?_, ?_, ?_, ?_, ?_, Off.of_below b3⟩, by simp, ?_⟩
  · rw [List.append_nil]; exact ht.below b3
  · exact heapKeep (heapKeep (heap_alloc_new w _) _) _
  · intro e; have := ht.lt _ e; omega
  · exact (OwnS.lit _ _ _ (by simp) (by simp)).alloc _
  · exact Own.lit _ _ _ (by simp) (by simp; omega)
  · intro j hj e
    obtain rfl := Option.some.inj hj
    have := ht.lt _ e
    simp only at this
    omega
  · intro j hj e
    obtain rfl := Option.some.inj hj
    have := ht.lt _ e
    simp only at this
    omega
  · intro e
    have e := Option.some.inj e
    simp only at e
    omega
  · intro e
    have e := Option.some.inj e
    simp only at e
    omega
  · intro e
    have e := Option.some.inj e
    simp only at e
    omega
  · exact TypesOf.nil _ _

set_option maxRecDepth 100000 in
set_option maxHeartbeats 1000000 in
theorem l12Classes_any (n k gL gC : Nat) (F0 : Nat → Prop) (vs0 : Array Value) (E0 : List (List UInt8)) (w : World) (hn : n ≤ 8) (hk : k ≤ 2) (ht : Tbl w gL gC F0 vs0 E0) (hE0 : E0.length ≤ 1000) :
    Calls Tryd.prog 67 #[tblV gL gC, .int .i64 (n : Int), .int .i64 (k : Int)] w (ClsPost w gL gC k F0 E0 (upTo n)) := by
  have HIV := Lib.hid (ClsInv.start (k := k) ht)
  have HE0 := Lib.hid hE0
  clear ht hE0
  unfold tblV
  go_enter Tryd.func67, Tryd.ntmps67
  go_wp2_with fail
  go_loopw [10, 8, 9] (fun i v u wr => ∃ z : Nat, 1 ≤ z ∧ z ≤ n + 1 ∧ i = .int .i64 z ∧ Hid (∃ F vs E T, ClsInv w wr gL gC k F0 F E0 E vs (upTo (z - 1)) v u T)) (fun i _ _ _ => n + 1 - (intOf i).toNat)
  case atStart => exact ⟨1, by omega, by omega, rfl, F0, vs0, [], [], HIV.out⟩
  case round =>
    obtain ⟨z, hz1, hz2, rfl, HST⟩ := hrel
    by_cases hzn : z ≤ n
    · have hzI : (z : Int) ≤ (n : Int) := by omega
      go_wp2_with fail
      obtain ⟨wo, rfl⟩ : ∃ wo : World, wo = wr := ⟨_, rfl⟩
      obtain ⟨N, hN⟩ : ∃ N, 2 ^ z = N := ⟨_, rfl⟩
      have hN2 : N ≤ 256 := by rw [← hN]; exact pow_8 (by omega)
      have hAL : Hid ((allW z).length = N) := by show _ = _; rw [allW_length, hN]
      have hUL : Hid ((upTo (z - 1)).length ≤ 254) := by
        have h1 := upTo_length (z - 1)
        have h2 : 2 ^ (z - 1 + 1) ≤ 2 ^ 8 := Nat.pow_le_pow_right (by decide) (by omega)
        show _ ≤ _
        omega
      have HSZ : Hid (∀ m, m < N → ((allW z).getD m ByteArray.empty).size ≤ 8) := fun m hm => by
        have h1 : m < (allW z).length := by rw [hAL.out]; exact hm
        have := allW_size z ((allW z).getD m ByteArray.empty) (by simp [h1])
        omega
      have HNW : Hid (∀ m, m < N → (allW z).getD m ByteArray.empty = numW z m) := fun m hm => by
        rw [← numW_all, hN]
        simp [hm]
      have hsh : IntKind.i64.wrap (2 ^ z) = (N : Int) := by
        rw [show (2 : Int) ^ z = ((2 ^ z : Nat) : Int) by simp, hN]
        exact IntWalk.i64_in _ (by omega)
      have HNN := Lib.hid hN
      have hz8 : (z : Int) ≤ 8 := by omega
      have hz0 : (0 : Int) ≤ (z : Int) := by omega
      have hcv : IntKind.u64.wrap (z : Int) = z := IntWalk.u64_in _ (by omega)
      have htn : (z : Int).toNat = z := by omega
      clear hN
      go_loopw [11, 8, 9] (fun i v u wr => ∃ m : Nat, m ≤ N ∧ i = .int .i64 m ∧ Hid (∃ F vs E T, ClsInv w wr gL gC k F0 F E0 E vs (upTo (z - 1) ++ (allW z).take m) v u T)) (fun i _ _ _ => N - (intOf i).toNat)
      case atStart =>
        refine ⟨0, by omega, rfl, ?_⟩
        show ∃ F vs E T, ClsInv w wo gL gC k F0 F E0 E vs (upTo (z - 1) ++ (allW z).take 0) u8 u9 T
        rw [List.take_zero, List.append_nil]
        exact HST.out
      case round =>
        clear HST
        obtain ⟨m, hm, rfl, HST⟩ := hrel
        by_cases hmn : m < N
        · have hmI : (m : Int) < (N : Int) := by omega
          obtain ⟨F, vs, E, T, hst⟩ := HST.out
          have HS := Lib.hid hst
          clear hst HST
          have HW12 := Lib.hid (fun W => l12Word_any m z W (by rw [HNN.out]; exact hmn) (by omega))
          obtain ⟨P, hP⟩ : ∃ P, upTo (z - 1) ++ (allW z).take m = P := ⟨_, rfl⟩
          rw [hP] at HS
          obtain ⟨x, hx⟩ : ∃ x, numW z m = x := ⟨_, rfl⟩
          have hx8 : x.size ≤ 8 := by rw [← hx, ← HNW.out m hmn]; exact HSZ.out m hmn
          rw [hx] at HW12
          have HPL : Hid (P.length ≤ 510) := by
            show _ ≤ _
            rw [← hP, List.length_append, List.length_take, hAL.out]
            have := hUL.out
            omega
          have HPX : Hid (upTo (z - 1) ++ (allW z).take (m + 1) = P ++ [x]) := by
            have h1 : m < (allW z).length := by rw [hAL.out]; exact hmn
            have h2 := HNW.out m hmn
            rw [hx] at h2
            show _ = _
            rw [List.take_succ_eq_append_getElem h1, ← List.append_assoc, hP]
            congr 2
            rw [← h2]
            simp [h1]
          clear hP hx
          have HSA := Lib.hid HS.out.mem
          have H12 := Lib.hid (fun W => l12Structure_any x W hx8)
          have hty : ∀ W (b : Nat), Below wr.heap.size wr W → b < W.heap.size → wr.heap.size ≤ b → Calls Tryd.prog 68 #[tblV gL gC, wordV x, .slice (some ⟨b, 0, none⟩) 0 0, .int .i64 (k : Int)] W (Typed gL gC F (E0 ++ E) (wSt x) k [] W) := by
            intro W b hW hb1 hb2
            refine l5Type_any k (by omega) gL gC F vs (E0 ++ E) x.size (bitsOf (letB x) x.size) (gridOf ltB x.size) _ [] W ⟨HSA.out.tbl.below hW, ?_, bitsOf_size _ _, grid_size _ _, hx8, emptyAt hb1 (by decide), ?_, by simp; omega, by simp⟩
            · have h1 := callsLe x.size k hx8 (by omega)
              have h2 := HS.out.few
              have h3 := HPL.out
              have h4 := HE0.out
              rw [List.length_append]
              omega
            · intro j hj e
              obtain rfl := Option.some.inj hj
              have e1 : (⟨b, 0, none⟩ : Addr).block = b := rfl
              have := HSA.out.tbl.lt _ e
              omega
          unfold tblV at hty
          have HTY := Lib.hid hty
          clear hty
          have KS : Hid (∀ w' : World, w'.heap[w.heap.size]? = some (.cells #[.slice (some ⟨gL, 0, none⟩) 997 997, .slice (some ⟨gC, 0, none⟩) 1 1] 80 (0, 0)) → (w'.cell? ⟨w.heap.size, 0, none⟩ = some (.slice (some ⟨gL, 0, none⟩) 997 997) ∧ w'.cell? ⟨w.heap.size, 1, none⟩ = some (.slice (some ⟨gC, 0, none⟩) 1 1))) := by
            intro w' h
            constructor <;> simp [World.cell?, h]
          have HTV : Hid (wr.drew.heap[w.heap.size]? = some (.cells #[.slice (some ⟨gL, 0, none⟩) 997 997, .slice (some ⟨gC, 0, none⟩) 1 1] 80 (0, 0))) := HSA.out.tvH
          have q0 := (KS.out wr HSA.out.tvH).1
          have q1 := (KS.out wr HSA.out.tvH).2
          go_wp2_with fail
          refine (HW12.out _).mono ?_; rintro e w' ⟨rfl, rfl⟩
          go_wp2_with fail
          go_region_held3 (fun w' => w'.cell? ⟨w.heap.size, 0, none⟩ = some (.slice (some ⟨gL, 0, none⟩) 997 997) ∧ w'.cell? ⟨w.heap.size, 1, none⟩ = some (.slice (some ⟨gC, 0, none⟩) 1 1))
            (first | exact KS.out _ HTV.out | exact KS.out _ (heapKeep HTV.out _) | go_keep)
            (first | ((with_reducible refine (H12.out _).mono ?_); rintro e w2 ⟨rfl, hb⟩; have HB2 : Hid (Below wr.heap.size wr w2) := (by first | exact ((Below.refl wr.heap.size wr).drew.trans (hb.mono (Nat.le_refl _))) | exact ((below1 wr _).trans (hb.mono (by simp)))); have hz2 := hb.size; simp at hz2; have HZ2 := Lib.hid hz2; have HTV := Lib.hid (heapBelow HSA.out.tvH HB2.out); clear hb hz2) | ((with_reducible refine (HTY.out _ _ ?_ ?_ ?_).mono ?_); (first | exact HB2.out | exact HB2.out.alloc HB2.out.size _); (first | exact allocLt _ _ | (have := HZ2.out; omega)); (have := HB2.out.size; omega); rintro e w3 ⟨num, F2, vs2, E2, rfl, ht, hE, hn2, hoff, hF2⟩; have HM3 : Hid (ClsMem w w3 gL gC F0 F2 (E0 ++ E ++ E2) vs2 (clsL k P) u8 u9 T) := (by first | exact (HSA.out.below HB2.out).typed ht hoff hF2 | exact (HSA.out.below (HB2.out.alloc HB2.out.size _)).typed ht hoff hF2); have HE2 : Hid (E2.length ≤ 585) := Nat.le_trans hE (callsLe x.size k hx8 (by omega)); have HN2 := Lib.hid hn2; have HTV := Lib.hid HM3.out.tvH; clear ht hE hn2 hoff hF2))
          all_goals
            have HTD : Hid (decide (num ∈ T) = (clsL k P).any (fun v => likeW k v x)) := TypesOf.mem HM3.out.tbl.nodup HS.out.types.more HN2.out
            have hTl : Hid ((clsL k P).length ≤ 510) := Nat.le_trans (clsL_length k _ P rfl) HPL.out
            have hTl2 : Hid (T.length ≤ 510) := by have h1 := HS.out.types.1; have h2 := hTl.out; show _ ≤ _; omega
            have HAS := Lib.hid (l1Has_any u9 T num w3 HM3.out.seen.nums (by have := hTl2.out; omega))
            rw [HTD.out] at HAS
            obtain ⟨b, hb⟩ : ∃ b, ((clsL k P).any fun v => likeW k v x) = b := ⟨_, rfl⟩
            rw [hb] at HAS
            have HBB := Lib.hid hb
            clear hb HTD
            cases b
            · have HLL : Hid ((clsL k P).length + [x].length ≤ 2000000) := by have := hTl.out; show _ ≤ _; simp; omega
              have HLT : Hid (T.length ≤ 2000000) := by have := hTl2.out; show _ ≤ _; omega
              go_wp2_with fail
              refine HAS.out.mono ?_; rintro e w' ⟨rfl, rfl⟩
              go_wp2_with (first | (at_builtin; refine wpList_ownSAll (M := [x]) (HM3.out.words.below ((Below.refl _ _).alloc (Nat.le_refl _) _)) (TextsAt.one w3 x) HLL.out rfl (.tmp 41) (.tmp 43) rfl rfl rfl ?_; intro v4 w4 ho hg hat; have HM4 := Lib.hid (HM3.out.pushV ho hg hat); clear ho hg hat) | (at_builtin; refine wpList_own1at HM4.out.seen HLT.out rfl (.tmp 45) (.tmp 47) rfl num _ rfl rfl rfl ?_; intro v5 w5 ho hg hat; have HM5 := Lib.hid (HM4.out.pushU ho hg hat); clear ho hg hat) | fail)
              go_roundw
              case rel =>
                refine ⟨m + 1, by omega, by go_num, F2, vs2, E ++ E2, T ++ [num], ?_⟩
                rw [HPX.out]
                exact HS.out.fresh HM5.out HE2.out HN2.out HBB.out
              case measure => simp [intOf]; omega
            · go_wp2_with fail
              refine HAS.out.mono ?_; rintro e w' ⟨rfl, rfl⟩
              go_wp2_with fail
              go_roundw
              case rel =>
                refine ⟨m + 1, by omega, by go_num, F2, vs2, E ++ E2, T, ?_⟩
                rw [HPX.out]
                exact HS.out.old HM3.out HE2.out HBB.out
              case measure => simp [intOf]; omega
        · have hmN : m = N := by omega
          subst hmN
          have HST2 : Hid (∃ F vs E T, ClsInv w wr gL gC k F0 F E0 E vs (upTo (z + 1 - 1)) u8 u9 T) := by
            have h := HST.out
            rw [← hAL.out, List.take_length] at h
            obtain ⟨y, rfl⟩ : ∃ y, z = y + 1 := ⟨z - 1, by omega⟩
            exact h
          go_wp2_with fail
          go_roundw
          case rel => exact ⟨z + 1, by omega, by omega, by go_num, HST2.out⟩
          case measure => simp [intOf]; omega
    · have hzn1 : z = n + 1 := by omega
      have hzI : ¬ (z : Int) ≤ (n : Int) := by omega
      have HST2 : Hid (∃ F vs E T, ClsInv w wr gL gC k F0 F E0 E vs (upTo n) u8 u9 T) := by
        have h := HST.out
        rw [hzn1] at h
        exact h
      clear HST
      go_wp2_with fail
      go_ret2
      obtain ⟨F, vs, E, T, hh⟩ := HST2.out
      exact ⟨_, _, T, F, vs, E, rfl, hh⟩
end Go.Proofs.YtagnikcnakdehaaDoor
