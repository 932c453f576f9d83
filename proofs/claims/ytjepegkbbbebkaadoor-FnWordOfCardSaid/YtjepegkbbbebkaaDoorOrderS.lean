/- The reference's l1Order and SameShape. Conditions: those that each states. -/
import Derived.Test.YtjepegkbbbebkaaDoorFits
import Derived.Test.YtjepegkbbbebkaaDoorEach
namespace Go.Proofs.YtjepegkbbbebkaaDoor
open Go.RowKit
set_option linter.unusedVariables false
set_option maxRecDepth 100000

namespace Gs
theorem fitsL_fits (a b : St) (o : List Nat) (x : Nat) : fitsL a (o ++ [x]) b (List.range (o.length + 1)) o.length = (!o.contains x && fitsI a b o x) := by
  have gr : ∀ i, i ≤ o.length → (List.range (o.length + 1)).getD i 0 = i := fun i hi => by simp [show i < o.length + 1 by omega]
  rw [Bool.eq_iff_iff, fitsL_iff, Bool.and_eq_true, fitsI_iff, gd_eq, gr _ (Nat.le_refl _)]
  simp only [Bool.not_eq_true', List.contains_eq_mem, decide_eq_false_iff_not]
  constructor
  · rintro ⟨h1, h2⟩
    refine ⟨?_, h1, ?_, fun k hk => ?_⟩
    · intro hm
      obtain ⟨i, hi, e⟩ := List.mem_iff_getElem.1 hm
      have h3 := (h2 i (by omega)).1
      rw [gd_lt hi, gr i (by omega)] at h3
      have h4 : o.getD i 0 = x := by simp [hi, e]
      rw [h4] at h3
      simp at h3
      omega
    · have h3 := (h2 o.length (Nat.le_refl _)).2.1
      rw [gd_eq, gr _ (Nat.le_refl _)] at h3
      exact h3
    · have h3 := (h2 k (by omega)).2
      rw [gd_lt hk, gr k (by omega)] at h3
      exact ⟨h3.2, h3.1⟩
  · rintro ⟨hx, h1, h2, h3⟩
    refine ⟨h1, fun i hi => ?_⟩
    by_cases e : i = o.length
    · rw [e, gd_eq, gr _ (Nat.le_refl _)]
      exact ⟨by simp, h2, h2⟩
    · have hi' : i < o.length := by omega
      rw [gd_lt hi', gr i hi]
      refine ⟨?_, (h3 i hi').2, (h3 i hi').1⟩
      have h4 : ¬ o.getD i 0 = x := by
        intro e'
        refine hx (List.mem_iff_getElem.2 ⟨i, hi', ?_⟩)
        simpa [hi'] using e'
      rw [decide_eq_false h4, decide_eq_false e]
end Gs
/-- Numbers as cells. -/
def numsC (l : List Nat) : Array Value := (l.map fun k : Nat => Value.int .i64 (k : Int)).toArray
section
variable {W : World} {g : Nat} {l : List Nat} {t : TypeId}
theorem numsC_cell (h : W.heap[g]? = some (.cells (numsC l) t (0, 0))) (k : Nat) (hk : k < l.length) : W.cell? ⟨g, k, none⟩ = some (.int .i64 ((l.getD k 0 : Nat) : Int)) ∧ W.frozen? ⟨g, k, none⟩ = false := by
  refine ⟨?_, by unfold World.frozen?; rw [h]; rfl⟩
  unfold World.cell?
  rw [h]
  simp [numsC, hk]
theorem numsC_set (h : W.heap[g]? = some (.cells (numsC l) t (0, 0))) (k c : Nat) : (W.setCell ⟨g, k, none⟩ (.int .i64 (c : Int))).heap[g]? = some (.cells (numsC (l.set k c)) t (0, 0)) := by
  have e : (numsC l).setIfInBounds k (.int .i64 (c : Int)) = numsC (l.set k c) := by
    unfold numsC
    rw [List.map_set]
    simp
  rw [← e]
  simp [World.setCell, Array.getElem?_modify, h]
theorem numsC_nums (h : W.heap[g]? = some (.cells (numsC l) t (0, 0))) (hl : l.length ≤ 100) : NumsAt W (.slice (some ⟨g, 0, none⟩) l.length l.length) l :=
  .inr ⟨g, 0, l.length, rfl, Nat.le_refl _, by unfold maxLen; omega, (Array.getElem?_eq_some_iff.1 h).1, fun j hj => by rw [Nat.zero_add]; exact (numsC_cell h j hj).1⟩
end
theorem make_ints (n : Nat) (h1 : 1 ≤ n) (h8 : n ≤ 9) (w : World) : (Instr.makeSlice 33 (.int .i64 (n : Int)) (.int .i64 (n : Int))).run Tryd.prog w = .ok (.slice (some ⟨w.heap.size, 0, none⟩) n n) (w.alloc (.cells (numsC (List.replicate n 0)) 3)) := by
  rcases (by omega : n = 1 ∨ n = 2 ∨ n = 3 ∨ n = 4 ∨ n = 5 ∨ n = 6 ∨ n = 7 ∨ n = 8 ∨ n = 9) with rfl | rfl | rfl | rfl | rfl | rfl | rfl | rfl | rfl
  all_goals kernel_rfl
/-- The numbers below i, then zeros. -/
def upC (n i : Nat) : List Nat := (List.range n).map fun j => if j < i then j else 0
theorem upC_at {n k j : Nat} (h : j < (upC n k).length) : (upC n k)[j] = if j < k then j else 0 := by simp [upC]
theorem upC_zero (n : Nat) : upC n 0 = List.replicate n 0 := by
  apply List.ext_getElem
  · simp [upC]
  · intro i h1 h2
    simp [upC]
theorem upC_set {n i : Nat} (hi : i < n) : (upC n i).set i i = upC n (i + 1) := by
  apply List.ext_getElem
  · simp [upC]
  · intro j h1 h2
    rw [List.getElem_set]
    rw [upC_at, upC_at]
    by_cases e : i = j
    · subst e
      rw [if_pos rfl, if_pos (show i < i + 1 by omega)]
    · rw [if_neg e]
      by_cases hj : j < i
      · rw [if_pos hj, if_pos (show j < i + 1 by omega)]
      · rw [if_neg hj, if_neg (show ¬ j < i + 1 by omega)]
theorem upC_full (n : Nat) : upC n n = List.range n := by
  apply List.ext_getElem
  · simp [upC]
  · intro j h1 h2
    rw [upC_at, if_pos (by simpa using h2)]
    simp
/-- What l1Order does from an order. -/
def OrdOK (n : Nat) (S R S2 R2 : ByteArray) (k : Nat) : Prop :=
  ∀ (w : World) (v : Value) (o : List Nat), o.length + k = n → (∀ z ∈ o, z < n) → NumsAt w v o →
    Calls Tryd.prog 103 #[strV n S R, v, strV n S2 R2] w fun e w' => (∃ u, e = .returned (.tuple #[u, .bool (!(Gs.shapesF (stOf n S R) (stOf n S2 R2) k o).isEmpty)])) ∧ Below w.heap.size w w'
theorem ret_uv {v : Value} {x y : Bool} (h : x = y) : Ending.returned (.tuple #[v, .bool x]) = .returned (.tuple #[v, .bool y]) := by rw [h]
theorem order_zero (n : Nat) (S R S2 R2 : ByteArray) : OrdOK n S R S2 R2 0 := by
  intro w v o hl ho hv
  have HT := Lib.hid (Two.new w n S R n S2 R2)
  unfold boxS at HT
  obtain ⟨c0, c1, c2, _, _, _, _⟩ := HT.out.a.cells
  obtain ⟨a, cap, rfl, _, _, _⟩ := hv.view
  have hlI : ((o.length : Int) == (n : Int)) = true := by rw [beq_iff_eq]; omega
  have hlI2 : (o.length : Int) = (n : Int) := by omega
  clear hv ho
  unfold strV
  go_enter Tryd.func103, Tryd.ntmps103
  go_wp2_with fail
  go_ret2
  exact ⟨⟨.slice a o.length cap, rfl⟩, HT.out.old⟩
/-- What the building of the first numbers keeps. -/
structure Ord8 (w wr : World) (n : Nat) (S R S2 R2 : ByteArray) (g2 cap2 g3 : Nat) (L : List Nat) (l : List Nat) : Prop where
  two : Two w wr n S R n S2 R2
  nums : NumsAt wr (.slice (some ⟨g2, 0, none⟩) L.length cap2) L
  blk : wr.heap[g3]? = some (.cells (numsC l) 3 (0, 0))
  ne : g2 < g3 ∧ w.heap.size + 1 < g3
theorem Ord8.set {w wr : World} {n : Nat} {S R S2 R2 : ByteArray} {g2 cap2 g3 : Nat} {L l : List Nat} (h : Ord8 w wr n S R S2 R2 g2 cap2 g3 L l) (k c : Nat) : Ord8 w (wr.setCell ⟨g3, k, none⟩ (.int .i64 (c : Int))) n S R S2 R2 g2 cap2 g3 L (l.set k c) := by
  obtain ⟨n1, n2⟩ := h.ne
  refine ⟨⟨h.two.a.far (by simp; omega) _, h.two.b.far (by simp; omega) _, h.two.old.setCell (by simp; omega) _⟩, ?_, numsC_set h.blk k c, h.ne⟩
  exact h.nums.kept (fun b hb _ => Below.heap_setCell _ _ _ _ (by
    have hb : g2 = b := by injection hb
    simp; omega)) (by simp)
theorem Ord8.below {w wr w' : World} {n : Nat} {S R S2 R2 : ByteArray} {g2 cap2 g3 : Nat} {L l : List Nat} (h : Ord8 w wr n S R S2 R2 g2 cap2 g3 L l) (hb : Below wr.heap.size wr w') : Ord8 w w' n S R S2 R2 g2 cap2 g3 L l :=
  ⟨h.two.below hb, h.nums.below hb, (hb.block _ (Array.getElem?_eq_some_iff.1 h.blk).1).trans h.blk, h.ne⟩
set_option maxHeartbeats 4000000 in
theorem order_step (n : Nat) (S R S2 R2 : ByteArray) (hn : n ≤ 8) (hS : S.size = n) (hR : R.size = n * n) (hS2 : S2.size = n) (hR2 : R2.size = n * n) (k : Nat) (IH : OrdOK n S R S2 R2 k) : OrdOK n S R S2 R2 (k + 1) := by
  intro w v o hl ho hv
  rw [Gs.shapesF_succ]
  have HIH := Lib.hid IH
  have HO := Lib.hid ho
  have HFI := Lib.hid (fun va vb L M l w hva hvb hl hlm hl8 hL hM => l1Fits_any n S R n S2 R2 va vb L M l w hS hR hn hS2 hR2 hn hva hvb hl hlm hl8 hL hM)
  have HT := Lib.hid (Two.new w n S R n S2 R2)
  unfold boxS at HT
  have HNV := Lib.hid hv
  obtain ⟨a, cap, rfl, q1, q2, q3⟩ := hv.view
  have hln : o.length < n := by omega
  obtain ⟨RES, hres⟩ : ∃ l, Gs.partTo (stOf n S R) (stOf n S2 R2) k o (stOf n S R).n = l := ⟨_, rfl⟩
  rw [hres]
  have HRES : Hid (Gs.partTo (stOf n S R) (stOf n S2 R2) k o n = RES) := hres
  have HLK := Lib.hid hl
  obtain ⟨i, hi⟩ : ∃ i, o.length = i := ⟨_, rfl⟩
  have HI := Lib.hid hi
  rw [hi] at hln q1
  have HNV2 : Hid (NumsAt w (.slice a i cap) o) := by have := HNV.out; rw [hi] at this; exact this
  rw [hi]
  have hnI : ((i : Int) == (n : Int)) = false := by rw [beq_eq_false_iff_ne]; omega
  have hnI2 : ¬ (i : Int) = (n : Int) := by omega
  obtain ⟨c0, c1, c2, _, _, _, _⟩ := HT.out.a.cells
  clear hv ho IH hS hR hS2 hR2 hres q3 hl HNV hi
  unfold maxLen at q2
  unfold strV at HFI
  unfold strV
  go_enter Tryd.func103, Tryd.ntmps103
  go_wp2_with fail
  go_loopw [8] (fun q wr => ∃ x : Nat, x ≤ n ∧ q = .int .i64 (x : Int) ∧ Hid (Two w wr n S R n S2 R2) ∧ Hid (Gs.partTo (stOf n S R) (stOf n S2 R2) k o x = [])) (fun q _ => n - (intOf q).toNat)
  case atStart => exact ⟨0, by omega, rfl, HT.out, rfl⟩
  case round =>
    clear c0 c1 c2 HT
    obtain ⟨x, hx, rfl, HX, HE⟩ := hrel
    obtain ⟨c0, c1, c2, _, _, _, _⟩ := HX.out.a.cells
    by_cases hlt : x < n
    · have hltI : (x : Int) < (n : Int) := by omega
      have HOW := Lib.hid (Own.lit0 wr.heap.size wr (Nat.le_refl _))
      have HBW := Lib.hid ((Below.refl wr.heap.size wr).alloc (Nat.le_refl _) (.cells #[] 3))
      have HV := Lib.hid ((HNV2.out.below HX.out.old).below HBW.out)
      have HL := Lib.hid (show ([] : List Nat).length + o.length ≤ 2000000 by rw [HI.out]; simp; omega)
      have HL1 := Lib.hid (show ([] ++ o).length ≤ 2000000 by simp; rw [HI.out]; omega)
      go_upto_region 7 with (first | (at_builtin; refine wpList_ownAll HOW.out HV.out HL.out rfl (.tmp 26) (.tmp 27) rfl rfl rfl ?_; intro v1 w1 ho hg; have HO1 := Lib.hid ho; have HB1 := Lib.hid (HBW.out.grown hg (by simp) (fun k hk => (HOW.out.own.lt k hk).1)); clear ho hg) | (at_builtin; refine wpList_own1 HO1.out HL1.out rfl (.tmp 28) (.tmp 30) rfl x _ rfl rfl rfl ?_; intro v2 w2 ho hg; have HO2 := Lib.hid ho; have HB2 := Lib.hid (HB1.out.grown hg HB1.out.size (fun k hk => (HO1.out.own.lt k hk).1)); clear ho hg))
      have hN2 : NumsAt w2 v2 (o ++ [x]) := by have := HO2.out.nums; simpa using this
      obtain ⟨g2, cap2, rfl, p1, p2, p3, p4, _⟩ := HO2.out.cells
      have hlx : ([] ++ o ++ [x]).length = i + 1 := by simp [HI.out]
      have hlx2 : (o ++ [x]).length = i + 1 := by simp [HI.out]
      rw [hlx] at hN2 p3 ⊢
      have mk := fun w => make_ints (i + 1) (by omega) (by omega) w
      simp only [Int.natCast_add, Int.cast_ofNat_Int] at mk
      have HX2 := Lib.hid (HX.out.below HB2.out)
      have hal : Below w2.heap.size w2 (w2.alloc (.cells (numsC (List.replicate (i + 1) 0)) 3)) := (Below.refl _ _).alloc (Nat.le_refl _) _
      have HOS : Hid (Ord8 w (w2.alloc (.cells (numsC (List.replicate (i + 1) 0)) 3)) n S R S2 R2 g2 cap2 w2.heap.size (o ++ [x]) (upC (i + 1) 0)) := by
        refine ⟨HX2.out.below hal, ?_, ?_, p2, HX2.out.b.cells.2.2.2.2.2.2⟩
        · rw [hlx2]; exact hN2.below hal
        · rw [upC_zero]; exact heap_alloc_new _ _
      clear hal hN2 c0 c1 c2 HO1 HB1 HO2 HB2 HX2 HOW HBW HV HL HL1 p1 p2
      unfold maxLen at p4
      go_upto_region 8 with fail
      obtain ⟨W3, hW3⟩ : ∃ W, w2.alloc (.cells (numsC (List.replicate (i + 1) 0)) 3) = W := ⟨_, rfl⟩
      rw [hW3] at HOS ⊢
      generalize w2.heap.size = g3 at *
      clear hW3 mk
      have hlx2' := Lib.hid hlx2
      clear hlx hlx2
      go_wp2_with fail
      go_loopw [11] (fun q wr => ∃ j : Nat, j ≤ i + 1 ∧ q = .int .i64 (j : Int) ∧ Hid (Ord8 w wr n S R S2 R2 g2 cap2 g3 (o ++ [x]) (upC (i + 1) j))) (fun q _ => i + 1 - (intOf q).toNat)
      case atStart => exact ⟨0, by omega, rfl, HOS.out⟩
      case round =>
        clear HOS
        obtain ⟨j, hj, rfl, HJ⟩ := hrel
        by_cases hlj : j < i + 1
        · have hljI : (j : Int) < (i : Int) + 1 := by omega
          obtain ⟨d1, d2⟩ := numsC_cell HJ.out.blk j (by simp [upC]; omega)
          have HJ2 : Hid (Ord8 w (wr.setCell ⟨g3, j, none⟩ (.int .i64 (j : Int))) n S R S2 R2 g2 cap2 g3 (o ++ [x]) (upC (i + 1) (j + 1))) := by
            have := HJ.out.set j j
            rw [upC_set hlj] at this
            exact this
          go_wp2_with fail
          go_roundw
          case rel => exact ⟨j + 1, by omega, by go_num, HJ2.out⟩
          case measure => simp [intOf]; omega
        · have hljI : ¬ (j : Int) < (i : Int) + 1 := by omega
          obtain rfl : j = i + 1 := by omega
          have hrg : NumsAt wr (.slice (some ⟨g3, 0, none⟩) (i + 1) (i + 1)) (List.range (i + 1)) := by
            have := numsC_nums HJ.out.blk (by simp [upC]; omega)
            rw [upC_full, List.length_range] at this
            exact this
          have hnm : NumsAt wr (.slice (some ⟨g2, 0, none⟩) (i + 1) cap2) (o ++ [x]) := by
            have := HJ.out.nums
            rw [hlx2'.out] at this
            exact this
          have hmem : ∀ z ∈ o ++ [x], z < n := by
            intro z hz
            rcases List.mem_append.1 hz with hz | hz
            · exact HO.out z hz
            · simp at hz; omega
          have hFI := HFI.out _ _ (o ++ [x]) (List.range (i + 1)) i wr hnm hrg hlx2'.out (by simp) (by omega) (fun j hj => hmem _ (by rw [List.getD_eq_getElem?_getD, List.getElem?_eq_getElem hj]; exact List.getElem_mem hj)) (fun j hj => by rw [List.length_range] at hj; simp [hj]; omega)
          have hft := Gs.fitsL_fits (stOf n S R) (stOf n S2 R2) o x
          rw [HI.out] at hft
          rw [hft] at hFI
          have HFX := Lib.hid hFI
          have HREC := Lib.hid (fun w' (hb : Below wr.heap.size wr w') => HIH.out w' (.slice (some ⟨g2, 0, none⟩) (i + 1) cap2) (o ++ [x]) (by rw [hlx2'.out]; have := HLK.out; have := HI.out; omega) hmem (hnm.below hb))
          have HPRE : Hid (∃ m, RES = Gs.partTo (stOf n S R) (stOf n S2 R2) k o (x + 1) ++ m) := by
            show ∃ m, _
            rw [← HRES.out]
            exact Gs.partTo_pre (by omega)
          have HNO : Hid ((!o.contains x && Gs.fitsI (stOf n S R) (stOf n S2 R2) o x) = false → Gs.partTo (stOf n S R) (stOf n S2 R2) k o (x + 1) = []) := fun h => by
            rw [Gs.partTo_no (by cases hc : o.contains x <;> cases hf : Gs.fitsI (stOf n S R) (stOf n S2 R2) o x <;> simp_all), HE.out]
          have HYES : Hid ((!o.contains x && Gs.fitsI (stOf n S R) (stOf n S2 R2) o x) = true → Gs.partTo (stOf n S R) (stOf n S2 R2) k o (x + 1) = Gs.shapesF (stOf n S R) (stOf n S2 R2) k (o ++ [x])) := fun h => by
            rw [Gs.partTo_yes (by cases hc : o.contains x <;> cases hf : Gs.fitsI (stOf n S R) (stOf n S2 R2) o x <;> simp_all), HE.out, List.nil_append]
          clear hrg hnm hmem hFI hft
          unfold strV at HREC
          generalize (!o.contains x && Gs.fitsI (stOf n S R) (stOf n S2 R2) o x) = ft at *
          obtain ⟨SS, hSS⟩ : ∃ l, Gs.shapesF (stOf n S R) (stOf n S2 R2) k (o ++ [x]) = l := ⟨_, rfl⟩
          rw [hSS] at HREC HYES
          clear hSS
          obtain ⟨c0, c1, c2, _, _, _, _⟩ := HJ.out.two.a.cells
          obtain ⟨e0, e1, e2, _, _, _, _⟩ := HJ.out.two.b.cells
          go_wp2_with fail
          refine HFX.out.mono ?_; rintro e w4 ⟨rfl, hb4⟩
          have HT4 := Lib.hid (HJ.out.two.below hb4)
          have HR4 := Lib.hid (HREC.out _ hb4)
          clear hb4 HFX HREC c0 c1 c2 e0 e1 e2
          cases ft
          · have HN := Lib.hid (HNO.out rfl)
            go_wp2_with fail
            go_roundw
            case rel => exact ⟨x + 1, by omega, by go_num, HT4.out, HN.out⟩
            case measure => simp [intOf]; omega
          · have HY := Lib.hid (HYES.out rfl)
            obtain ⟨c0, c1, c2, _, _, _, _⟩ := HT4.out.a.cells
            obtain ⟨e0, e1, e2, _, _, _, _⟩ := HT4.out.b.cells
            go_wp2_with fail
            refine HR4.out.mono ?_; rintro e w5 ⟨⟨u, rfl⟩, hb5⟩
            have HT5 := Lib.hid (HT4.out.below hb5)
            clear hb5 HR4 c0 c1 c2 e0 e1 e2
            cases hse : SS.isEmpty
            · have HRE : Hid (true = !RES.isEmpty) := by
                show _ = _
                obtain ⟨m, hm⟩ := HPRE.out
                rw [hm, HY.out]
                cases SS with
                | nil => cases hse
                | cons a b => rfl
              clear hse
              go_wp2_with fail
              go_ret2
              exact ⟨⟨u, ret_uv HRE.out⟩, HT5.out.old⟩
            · have HN : Hid (Gs.partTo (stOf n S R) (stOf n S2 R2) k o (x + 1) = []) := by
                show _ = _
                rw [HY.out]
                cases SS with
                | nil => rfl
                | cons a b => cases hse
              clear hse
              go_wp2_with fail
              go_roundw
              case rel => exact ⟨x + 1, by omega, by go_num, HT5.out, HN.out⟩
              case measure => simp [intOf]; omega
    · have hltI : ¬ (x : Int) < (n : Int) := by omega
      have hxn : x = n := by omega
      have HRE : Hid (false = !RES.isEmpty) := by
        have h1 := HE.out
        rw [hxn, HRES.out] at h1
        show _ = _
        rw [h1]; rfl
      have HB : Hid (Below w.heap.size w (wr.alloc (.cells #[] 3))) := HX.out.old.alloc HX.out.old.size _
      clear hxn
      go_wp2_with fail
      go_ret2
      exact ⟨⟨.slice (some ⟨wr.heap.size, 0, none⟩) 0 0, ret_uv HRE.out⟩, HB.out⟩
theorem order_any (n : Nat) (S R S2 R2 : ByteArray) (hn : n ≤ 8) (hS : S.size = n) (hR : R.size = n * n) (hS2 : S2.size = n) (hR2 : R2.size = n * n) : ∀ k, OrdOK n S R S2 R2 k
  | 0 => order_zero n S R S2 R2
  | k + 1 => order_step n S R S2 R2 hn hS hR hS2 hR2 k (order_any n S R S2 R2 hn hS hR hS2 hR2 k)
end Go.Proofs.YtjepegkbbbebkaaDoor
