/- Contracts of the program's functions and what they compute: part 23. Conditions: those that each theorem states. -/
import Derived.Test.YtofmagiahmmmgaaGreatDoorP53n22
namespace Go.Proofs.YtofmagiahmmmgaaGreatDoor
open Go.RowKit
set_option linter.unusedVariables false
set_option maxRecDepth 100000
theorem take_snoc {α : Type} (l : List α) (i : Nat) (h : i < l.length) : l.take (i + 1) = l.take i ++ [l[i]] := List.take_succ_eq_append_getElem h
theorem many_sum (l : List (Nat × ByteArray × ByteArray)) (hv : ∀ p ∈ l, 1 ≤ p.1 ∧ p.1 ≤ 8 ∧ p.2.1.size = p.1 ∧ p.2.2.size = p.1 * p.1) : Col.many (l.map stPc) ≤ 8 * l.length ∧ l.length ≤ Col.many (l.map stPc) := by
  induction l with
  | nil => simp [Col.many]
  | cons p l ih =>
    have h1 := hv p (by simp)
    have h2 := ih fun q hq => hv q (by simp [hq])
    have h3 : (stPc p).n = p.1 := rfl
    simp only [List.map_cons, Col.many, List.length_cons, h3]
    omega
theorem many_le (l : List (Nat × ByteArray × ByteArray)) (h2 : l.length ≤ 2) (hv : ∀ p ∈ l, 1 ≤ p.1 ∧ p.1 ≤ 8 ∧ p.2.1.size = p.1 ∧ p.2.2.size = p.1 * p.1) (i : Nat) : Col.many ((l.take i).map stPc) ≤ 16 := by
  have := (many_sum (l.take i) fun p hp => hv p (List.mem_of_mem_take hp)).1
  have : (l.take i).length ≤ l.length := by rw [List.length_take]; omega
  omega
theorem many_take : ∀ (l : List (Nat × ByteArray × ByteArray)) (j : Nat), Col.many ((l.take j).map stPc) ≤ Col.many (l.map stPc)
  | [], j => by simp
  | _ :: _, 0 => by simp [Col.many]
  | p :: l, j + 1 => by
    simp only [List.take_succ_cons, List.map_cons, Col.many]
    exact Nat.add_le_add_left (many_take l j) _
theorem nums_mid {w : World} {g cap M bg n : Nat} {C : List Nat} (h : NumsAt w (.slice (some ⟨g, 0, none⟩) M cap) C) (hM : C.length = M) (h1 : 1 ≤ n) (hb : bg + n ≤ M) : NumsAt w (.slice (some ⟨g, bg, none⟩) n (cap - bg)) ((C.drop bg).take n) := by
  subst hM
  have h2 := h.drop (i := bg) (by omega) bg (by omega)
  rw [← List.length_drop] at h2
  exact h2.take n (by rw [List.length_drop]; omega) (by rw [List.length_drop]; omega)
theorem own_lo {B : Nat} {w : World} {v : Value} {L : List Nat} (h : Own B w v L) {g : Nat} (hg : v.ownBlock = some g) : B ≤ g := (h.own.lt g hg).1
theorem fresh_ne {B0 : Nat} {w0 w : World} {v u : Value} {L : List Nat} {xs : List Value} (h : Own w0.heap.size w v L) (hu : OwnV B0 w0 u xs) : ∀ g, v.ownBlock = some g → u.ownBlock ≠ some g := fun g hg e => absurd (hu.own.lt g e).2 (Nat.not_lt.2 (own_lo h hg))
theorem NumsAt.sl {w : World} {v : Value} {L : List Nat} (h : NumsAt w v L) : ∃ a b c, v = .slice a b c := by
  obtain ⟨a, c, e, _⟩ := h.view
  exact ⟨_, _, _, e⟩
theorem slice_mid (ht : (Tryz.prog).underlying 33 = some (.slice ((Tryz.prog).elem 33))) (g M cap bg n : Nat) (W : World) (h1 : 1 ≤ n) (h2 : bg + n ≤ cap) (h5 : bg + n ≤ 16) : (Instr.sliceAt 33 (.slice (some ⟨g, 0, none⟩) M cap) (some (.int .i64 (bg : Int))) (some (.int .i64 (IntKind.i64.wrap ((bg : Int) + (n : Int))))) none).run Tryz.prog W = .ok (.slice (some ⟨g, bg, none⟩) n (cap - bg)) W := by
  rw [IntWalk.i64_in _ (by omega), run_sliceAt_slice _ _ _ _ _ _ ht, run_slice_lh _ _ _ _ _ ht .i64 .i64 _ _ (by omega) (by omega) (by omega)]
  have h3 : (((bg : Int) + (n : Int)).toNat) = bg + n := by omega
  have h4 : ¬ cap = bg := by omega
  rw [h3]
  simp [Result.andThen, sliced, h4, go_sem, Addr.add]
  exact fun h => h.symm
set_option maxHeartbeats 8000000 in
theorem coloursAfter_any (l : List (Nat × ByteArray × ByteArray)) (g cap r : Nat) (w : World) (hl1 : 1 ≤ l.length) (hl2 : l.length ≤ 2) (hcap : l.length ≤ cap) (hcm : cap ≤ maxLen) (hr : r ≤ 1000) (hv : ∀ p ∈ l, 1 ≤ p.1 ∧ p.1 ≤ 8 ∧ p.2.1.size = p.1 ∧ p.2.2.size = p.1 * p.1) (hs : SsAt w g l) :
    Calls Tryz.prog 60 #[.slice (some ⟨g, 0, none⟩) l.length cap, .int .i64 (r : Int)] w (NewNums w (Col.after (l.map stPc) r)) := by
  have HV := Lib.hid hv
  have HG := Lib.hid hs
  obtain ⟨N, hN⟩ : ∃ N, l.length = N := ⟨_, rfl⟩
  have HN := Lib.hid hN
  rw [hN] at hl1 hl2 hcap ⊢
  unfold maxLen at hcm
  have hglt := hs.lt
  have HMT : Hid (∀ i, i ≤ l.length → Col.many ((l.take i).map stPc) ≤ 16) := fun i hi => many_le l (by omega) hv i
  have HR0 : Hid (Rw w (w.alloc (.cells #[] 33)) (.slice (some ⟨w.heap.size, 0, none⟩) 0 0) [] (Col.firsts ((l.take 0).map stPc))) := Rw.nil w w (Below.refl _ _)
  clear hv hs hN
  go_enter Tryz.func60, Tryz.ntmps60
  go_wp2_with fail
  go_loopw [18, 5] (fun q v wr => ∃ i : Nat, i ≤ N ∧ q = .int .i64 (i : Int) ∧ Hid (∃ xs, Rw w wr v xs (Col.firsts ((l.take i).map stPc)))) (fun q _ _ => N - (intOf q).toNat)
  case atStart => exact ⟨0, by omega, rfl, _, HR0.out⟩
  case round =>
    clear HR0
    obtain ⟨i, hi, rfl, HE⟩ := hrel
    obtain ⟨xs0, hrw⟩ := HE.out
    have HR := Lib.hid hrw
    clear hrw HE
    by_cases hlt : i < N
    · have hltI : (i : Int) < (N : Int) := by omega
      have hil : i < l.length := by rw [HN.out]; exact hlt
      obtain ⟨c0, c1, c2⟩ := (HG.out.below hglt HR.out.old).cell i hil
      have hvp := HV.out l[i] (List.getElem_mem hil)
      have HT := Lib.hid (take_snoc l i hil)
      obtain ⟨⟨n, S, R⟩, hp⟩ : ∃ p, l[i] = p := ⟨_, rfl⟩
      rw [hp] at c0 c1 c2 hvp HT
      obtain ⟨n1, n8, hS, hRz⟩ := (show 1 ≤ n ∧ n ≤ 8 ∧ S.size = n ∧ R.size = n * n from hvp)
      clear hp hvp
      have hgl2 : g < wr.heap.size := Nat.lt_of_lt_of_le hglt HR.out.old.size
      have c0 : wr.cell? ⟨g, i * 3, none⟩ = some (.int .i64 (n : Int)) := c0
      have c1 : wr.cell? ⟨g, i * 3 + 1, none⟩ = some (.string S) := c1
      have c2 : wr.cell? ⟨g, i * 3 + 2, none⟩ = some (.string R) := c2
      obtain ⟨W4, hW4⟩ : ∃ W4, wr.alloc (.cells #[.int .i64 (n : Int), .string S, .string R] 24) = W4 := ⟨_, rfl⟩
      obtain ⟨X, hX⟩ : ∃ X, wr.heap.size = X := ⟨_, rfl⟩
      have hal0 : Below wr.heap.size wr W4 := by rw [← hW4]; exact (Below.refl _ _).alloc (Nat.le_refl _) _
      have HX0 : Hid (Rw w W4 u5 xs0 (Col.firsts ((l.take i).map stPc) ++ (List.range 0).map (Col.first (stPc (n, S, R)))) ∧ SBlk W4 X n S R ∧ u5.ownBlock ≠ some X) := by
        refine ⟨by simpa using HR.out.below hal0, by rw [← hW4, ← hX]; exact SBlk.new wr n S R, fun e => ?_⟩
        rw [← hX] at e
        have := (HR.out.own.own.lt _ e).2
        omega
      have HW := Lib.hid (And.intro hW4 hX)
      clear hW4 hX hal0
      go_upto_region 5 with fail
      rw [HW.out.1, HW.out.2]
      clear HW HR c0 c1 c2 hgl2
      obtain ⟨a0, a1, a2, _, _, _, hal⟩ := HX0.out.2.1.cells
      have HI : Hid (∀ W x, x < n → Calls Tryz.prog 100 #[strV n S R, .int .i64 (x : Int)] W fun e w' => e = .returned (.bool (oneAt S x)) ∧ Below W.heap.size W w') := fun W x hx => inSet_b n S R x W (by omega) (by omega)
      have HJ : Hid (∀ W x, x < n → Calls Tryz.prog 101 #[strV n S R, .int .i64 (x : Int), .int .i64 (x : Int)] W fun e w' => e = .returned (.bool (relAt n R x x)) ∧ Below W.heap.size W w') := fun W x hx => inRel_b n S R x x W hx hx n8 hRz
      clear hS hRz
      go_wp2_with fail
      go_loopw [24, 5] (fun q v wr => ∃ x : Nat, x ≤ n ∧ q = .int .i64 (x : Int) ∧ Hid (∃ xs, Rw w wr v xs (Col.firsts ((l.take i).map stPc) ++ (List.range x).map (Col.first (stPc (n, S, R)))) ∧ SBlk wr X n S R ∧ v.ownBlock ≠ some X)) (fun q _ _ => n - (intOf q).toNat)
      case atStart => exact ⟨0, by omega, rfl, _, HX0.out⟩
      case round =>
        clear HX0 a0 a1 a2 hal
        obtain ⟨x, hx, rfl, HE⟩ := hrel
        obtain ⟨xs, h1, h2, h3⟩ := HE.out
        have HX : Hid (Rw w wr u5 xs (Col.firsts ((l.take i).map stPc) ++ (List.range x).map (Col.first (stPc (n, S, R)))) ∧ SBlk wr X n S R ∧ u5.ownBlock ≠ some X) := ⟨h1, h2, h3⟩
        have HNX := Lib.hid h3
        clear h1 h2 h3 HE
        by_cases hlt2 : x < n
        · have hltJ : (x : Int) < (n : Int) := by omega
          obtain ⟨a0, a1, a2, _, _, _, hal⟩ := HX.out.2.1.cells
          have HLL : Hid (xs.length ≤ 100000) := by
            show _ ≤ _
            rw [HX.out.1.ls.len, List.length_append, Col.firsts_len, List.length_map, List.length_range]
            have := HMT.out i (by rw [HN.out]; exact hi)
            omega
          have HFD := Lib.hid (show Col.first (stPc (n, S, R)) x = [(if oneAt S x then 2 else 0) + (if relAt n R x x then 1 else 0)] from rfl)
          have hs1 := fun W => HI.out W x hlt2
          have hs2 := fun W => HJ.out W x hlt2
          obtain ⟨t1, ht1⟩ : ∃ t, oneAt S x = t := ⟨_, rfl⟩
          obtain ⟨t2, ht2⟩ : ∃ t, relAt n R x x = t := ⟨_, rfl⟩
          rw [ht1] at hs1 HFD
          rw [ht2] at hs2 HFD
          have HS1 := Lib.hid hs1
          have HS2 := Lib.hid hs2
          unfold strV at HS1 HS2
          clear hs1 hs2 ht1 ht2
          cases t1 <;> cases t2
          · have HD : Hid (Col.first (stPc (n, S, R)) x = [0]) := HFD.out
            clear HFD
            go_wp2_with fail
            refine (HS1.out _).mono ?_; rintro e w3 ⟨rfl, hb3⟩
            have HX3 : Hid (Rw w w3 u5 xs (Col.firsts ((l.take i).map stPc) ++ (List.range x).map (Col.first (stPc (n, S, R)))) ∧ SBlk w3 X n S R) := ⟨HX.out.1.below hb3, HX.out.2.1.below hb3 HX.out.2.1.cells.2.2.2.2.2.2⟩
            clear hb3 a0 a1 a2 hal
            obtain ⟨a0, a1, a2, _, _, _, hal⟩ := HX3.out.2.cells
            go_wp2_with fail
            refine (HS2.out _).mono ?_; rintro e w4 ⟨rfl, hb4⟩
            have HX4 : Hid (Rw w w4 u5 xs (Col.firsts ((l.take i).map stPc) ++ (List.range x).map (Col.first (stPc (n, S, R)))) ∧ SBlk w4 X n S R) := ⟨HX3.out.1.below hb4, HX3.out.2.below hb4 hal⟩
            clear hb4 a0 a1 a2 hal
            have hal5 : Below w4.heap.size w4 (w4.alloc (.cells #[.int .i64 (0 : Int)] 3)) := (Below.refl _ _).alloc (Nat.le_refl _) _
            have HX5 : Hid (Rw w (w4.alloc (.cells #[.int .i64 (0 : Int)] 3)) u5 xs (Col.firsts ((l.take i).map stPc) ++ (List.range x).map (Col.first (stPc (n, S, R)))) ∧ SBlk (w4.alloc (.cells #[.int .i64 (0 : Int)] 3)) X n S R ∧ NumsAt (w4.alloc (.cells #[.int .i64 (0 : Int)] 3)) (.slice (some ⟨w4.heap.size, 0, none⟩) 1 1) [0] ∧ (∀ g, (Value.slice (some ⟨w4.heap.size, 0, none⟩) 1 1).ownBlock = some g → u5.ownBlock ≠ some g)) := by
              refine ⟨HX4.out.1.below hal5, HX4.out.2.below hal5 HX4.out.2.cells.2.2.2.2.2.2, NumsAt.one w4 0, fun g hg e => ?_⟩
              have hg : w4.heap.size = g := Option.some.inj hg
              have := (HX4.out.1.own.own.lt g e).2
              omega
            clear hal5
            go_wp2_with (first | (at_builtin; refine wpList_ownV1 HX5.out.1.own HLL.out rfl (.tmp 38) (.tmp 41) rfl (.slice (some ⟨w4.heap.size, 0, none⟩) 1 1) rfl _ (by simp) rfl rfl ?_; intro v2 w6 ho hg hat; have HR6 := Lib.hid (HX5.out.1.push HX5.out.2.2.1 HX5.out.2.2.2 ho hg hat); have HB6 : Hid (SBlk w6 X n S R ∧ v2.ownBlock ≠ some X) := ⟨(hg.block X HX5.out.2.1.cells.2.2.2.2.2.2 (fun e => HNX.out e.symm)).trans HX5.out.2.1, (by rcases hat with e | ⟨k, e, hk⟩; (rw [e]; exact HNX.out); (rw [e]; intro e2; injection e2 with e2; have := HX5.out.2.1.cells.2.2.2.2.2.2; omega))⟩; clear ho hg hat) | fail)
            go_roundw
            case rel => exact ⟨x + 1, by omega, by go_num, _, ⟨by rw [range_map_succ, ← List.append_assoc, HD.out]; exact HR6.out, HB6.out⟩⟩
            case measure => simp [intOf]; omega
          · have HD : Hid (Col.first (stPc (n, S, R)) x = [1]) := HFD.out
            clear HFD
            go_wp2_with fail
            refine (HS1.out _).mono ?_; rintro e w3 ⟨rfl, hb3⟩
            have HX3 : Hid (Rw w w3 u5 xs (Col.firsts ((l.take i).map stPc) ++ (List.range x).map (Col.first (stPc (n, S, R)))) ∧ SBlk w3 X n S R) := ⟨HX.out.1.below hb3, HX.out.2.1.below hb3 HX.out.2.1.cells.2.2.2.2.2.2⟩
            clear hb3 a0 a1 a2 hal
            obtain ⟨a0, a1, a2, _, _, _, hal⟩ := HX3.out.2.cells
            go_wp2_with fail
            refine (HS2.out _).mono ?_; rintro e w4 ⟨rfl, hb4⟩
            have HX4 : Hid (Rw w w4 u5 xs (Col.firsts ((l.take i).map stPc) ++ (List.range x).map (Col.first (stPc (n, S, R)))) ∧ SBlk w4 X n S R) := ⟨HX3.out.1.below hb4, HX3.out.2.below hb4 hal⟩
            clear hb4 a0 a1 a2 hal
            have hal5 : Below w4.heap.size w4 (w4.alloc (.cells #[.int .i64 (1 : Int)] 3)) := (Below.refl _ _).alloc (Nat.le_refl _) _
            have HX5 : Hid (Rw w (w4.alloc (.cells #[.int .i64 (1 : Int)] 3)) u5 xs (Col.firsts ((l.take i).map stPc) ++ (List.range x).map (Col.first (stPc (n, S, R)))) ∧ SBlk (w4.alloc (.cells #[.int .i64 (1 : Int)] 3)) X n S R ∧ NumsAt (w4.alloc (.cells #[.int .i64 (1 : Int)] 3)) (.slice (some ⟨w4.heap.size, 0, none⟩) 1 1) [1] ∧ (∀ g, (Value.slice (some ⟨w4.heap.size, 0, none⟩) 1 1).ownBlock = some g → u5.ownBlock ≠ some g)) := by
              refine ⟨HX4.out.1.below hal5, HX4.out.2.below hal5 HX4.out.2.cells.2.2.2.2.2.2, NumsAt.one w4 1, fun g hg e => ?_⟩
              have hg : w4.heap.size = g := Option.some.inj hg
              have := (HX4.out.1.own.own.lt g e).2
              omega
            clear hal5
            go_wp2_with (first | (at_builtin; refine wpList_ownV1 HX5.out.1.own HLL.out rfl (.tmp 38) (.tmp 41) rfl (.slice (some ⟨w4.heap.size, 0, none⟩) 1 1) rfl _ (by simp) rfl rfl ?_; intro v2 w6 ho hg hat; have HR6 := Lib.hid (HX5.out.1.push HX5.out.2.2.1 HX5.out.2.2.2 ho hg hat); have HB6 : Hid (SBlk w6 X n S R ∧ v2.ownBlock ≠ some X) := ⟨(hg.block X HX5.out.2.1.cells.2.2.2.2.2.2 (fun e => HNX.out e.symm)).trans HX5.out.2.1, (by rcases hat with e | ⟨k, e, hk⟩; (rw [e]; exact HNX.out); (rw [e]; intro e2; injection e2 with e2; have := HX5.out.2.1.cells.2.2.2.2.2.2; omega))⟩; clear ho hg hat) | fail)
            go_roundw
            case rel => exact ⟨x + 1, by omega, by go_num, _, ⟨by rw [range_map_succ, ← List.append_assoc, HD.out]; exact HR6.out, HB6.out⟩⟩
            case measure => simp [intOf]; omega
          · have HD : Hid (Col.first (stPc (n, S, R)) x = [2]) := HFD.out
            clear HFD
            go_wp2_with fail
            refine (HS1.out _).mono ?_; rintro e w3 ⟨rfl, hb3⟩
            have HX3 : Hid (Rw w w3 u5 xs (Col.firsts ((l.take i).map stPc) ++ (List.range x).map (Col.first (stPc (n, S, R)))) ∧ SBlk w3 X n S R) := ⟨HX.out.1.below hb3, HX.out.2.1.below hb3 HX.out.2.1.cells.2.2.2.2.2.2⟩
            clear hb3 a0 a1 a2 hal
            obtain ⟨a0, a1, a2, _, _, _, hal⟩ := HX3.out.2.cells
            go_wp2_with fail
            refine (HS2.out _).mono ?_; rintro e w4 ⟨rfl, hb4⟩
            have HX4 : Hid (Rw w w4 u5 xs (Col.firsts ((l.take i).map stPc) ++ (List.range x).map (Col.first (stPc (n, S, R)))) ∧ SBlk w4 X n S R) := ⟨HX3.out.1.below hb4, HX3.out.2.below hb4 hal⟩
            clear hb4 a0 a1 a2 hal
            have hal5 : Below w4.heap.size w4 (w4.alloc (.cells #[.int .i64 (2 : Int)] 3)) := (Below.refl _ _).alloc (Nat.le_refl _) _
            have HX5 : Hid (Rw w (w4.alloc (.cells #[.int .i64 (2 : Int)] 3)) u5 xs (Col.firsts ((l.take i).map stPc) ++ (List.range x).map (Col.first (stPc (n, S, R)))) ∧ SBlk (w4.alloc (.cells #[.int .i64 (2 : Int)] 3)) X n S R ∧ NumsAt (w4.alloc (.cells #[.int .i64 (2 : Int)] 3)) (.slice (some ⟨w4.heap.size, 0, none⟩) 1 1) [2] ∧ (∀ g, (Value.slice (some ⟨w4.heap.size, 0, none⟩) 1 1).ownBlock = some g → u5.ownBlock ≠ some g)) := by
              refine ⟨HX4.out.1.below hal5, HX4.out.2.below hal5 HX4.out.2.cells.2.2.2.2.2.2, NumsAt.one w4 2, fun g hg e => ?_⟩
              have hg : w4.heap.size = g := Option.some.inj hg
              have := (HX4.out.1.own.own.lt g e).2
              omega
            clear hal5
            go_wp2_with (first | (at_builtin; refine wpList_ownV1 HX5.out.1.own HLL.out rfl (.tmp 38) (.tmp 41) rfl (.slice (some ⟨w4.heap.size, 0, none⟩) 1 1) rfl _ (by simp) rfl rfl ?_; intro v2 w6 ho hg hat; have HR6 := Lib.hid (HX5.out.1.push HX5.out.2.2.1 HX5.out.2.2.2 ho hg hat); have HB6 : Hid (SBlk w6 X n S R ∧ v2.ownBlock ≠ some X) := ⟨(hg.block X HX5.out.2.1.cells.2.2.2.2.2.2 (fun e => HNX.out e.symm)).trans HX5.out.2.1, (by rcases hat with e | ⟨k, e, hk⟩; (rw [e]; exact HNX.out); (rw [e]; intro e2; injection e2 with e2; have := HX5.out.2.1.cells.2.2.2.2.2.2; omega))⟩; clear ho hg hat) | fail)
            go_roundw
            case rel => exact ⟨x + 1, by omega, by go_num, _, ⟨by rw [range_map_succ, ← List.append_assoc, HD.out]; exact HR6.out, HB6.out⟩⟩
            case measure => simp [intOf]; omega
          · have HD : Hid (Col.first (stPc (n, S, R)) x = [3]) := HFD.out
            clear HFD
            go_wp2_with fail
            refine (HS1.out _).mono ?_; rintro e w3 ⟨rfl, hb3⟩
            have HX3 : Hid (Rw w w3 u5 xs (Col.firsts ((l.take i).map stPc) ++ (List.range x).map (Col.first (stPc (n, S, R)))) ∧ SBlk w3 X n S R) := ⟨HX.out.1.below hb3, HX.out.2.1.below hb3 HX.out.2.1.cells.2.2.2.2.2.2⟩
            clear hb3 a0 a1 a2 hal
            obtain ⟨a0, a1, a2, _, _, _, hal⟩ := HX3.out.2.cells
            go_wp2_with fail
            refine (HS2.out _).mono ?_; rintro e w4 ⟨rfl, hb4⟩
            have HX4 : Hid (Rw w w4 u5 xs (Col.firsts ((l.take i).map stPc) ++ (List.range x).map (Col.first (stPc (n, S, R)))) ∧ SBlk w4 X n S R) := ⟨HX3.out.1.below hb4, HX3.out.2.below hb4 hal⟩
            clear hb4 a0 a1 a2 hal
            have hal5 : Below w4.heap.size w4 (w4.alloc (.cells #[.int .i64 (3 : Int)] 3)) := (Below.refl _ _).alloc (Nat.le_refl _) _
            have HX5 : Hid (Rw w (w4.alloc (.cells #[.int .i64 (3 : Int)] 3)) u5 xs (Col.firsts ((l.take i).map stPc) ++ (List.range x).map (Col.first (stPc (n, S, R)))) ∧ SBlk (w4.alloc (.cells #[.int .i64 (3 : Int)] 3)) X n S R ∧ NumsAt (w4.alloc (.cells #[.int .i64 (3 : Int)] 3)) (.slice (some ⟨w4.heap.size, 0, none⟩) 1 1) [3] ∧ (∀ g, (Value.slice (some ⟨w4.heap.size, 0, none⟩) 1 1).ownBlock = some g → u5.ownBlock ≠ some g)) := by
              refine ⟨HX4.out.1.below hal5, HX4.out.2.below hal5 HX4.out.2.cells.2.2.2.2.2.2, NumsAt.one w4 3, fun g hg e => ?_⟩
              have hg : w4.heap.size = g := Option.some.inj hg
              have := (HX4.out.1.own.own.lt g e).2
              omega
            clear hal5
            go_wp2_with (first | (at_builtin; refine wpList_ownV1 HX5.out.1.own HLL.out rfl (.tmp 38) (.tmp 41) rfl (.slice (some ⟨w4.heap.size, 0, none⟩) 1 1) rfl _ (by simp) rfl rfl ?_; intro v2 w6 ho hg hat; have HR6 := Lib.hid (HX5.out.1.push HX5.out.2.2.1 HX5.out.2.2.2 ho hg hat); have HB6 : Hid (SBlk w6 X n S R ∧ v2.ownBlock ≠ some X) := ⟨(hg.block X HX5.out.2.1.cells.2.2.2.2.2.2 (fun e => HNX.out e.symm)).trans HX5.out.2.1, (by rcases hat with e | ⟨k, e, hk⟩; (rw [e]; exact HNX.out); (rw [e]; intro e2; injection e2 with e2; have := HX5.out.2.1.cells.2.2.2.2.2.2; omega))⟩; clear ho hg hat) | fail)
            go_roundw
            case rel => exact ⟨x + 1, by omega, by go_num, _, ⟨by rw [range_map_succ, ← List.append_assoc, HD.out]; exact HR6.out, HB6.out⟩⟩
            case measure => simp [intOf]; omega
        · obtain rfl : x = n := by omega
          have hltJ : ¬ (x : Int) < (x : Int) := by omega
          have HN2 : Hid (Rw w wr u5 xs (Col.firsts ((l.take (i + 1)).map stPc))) := by
            show Rw _ _ _ _ _
            rw [HT.out, List.map_append, List.map_singleton, firsts_snoc]
            exact HX.out.1
          clear HX HNX
          go_wp2_with fail
          go_roundw
          case rel => exact ⟨i + 1, by omega, by go_num, _, HN2.out⟩
          case measure => simp [intOf]; omega
    · obtain rfl : N = i := by omega
      have hltI : ¬ (N : Int) < (N : Int) := by omega
      have HR1 : Hid (Rw w wr u5 xs0 (Col.firsts (l.map stPc))) := by
        have h := HR.out
        rw [← HN.out, List.take_length] at h
        exact h
      have HML : Hid (N ≤ Col.many (l.map stPc) ∧ Col.many (l.map stPc) ≤ 16) := by
        have h := many_sum l HV.out
        have h2 := HMT.out l.length (Nat.le_refl _)
        rw [List.take_length] at h2
        rw [HN.out] at h
        exact ⟨h.2, h2⟩
      have HCO2 := Lib.hid (fun (ds : List (List Nat)) (v : Value) (xs : List Value) (W0 W : World) (h : Rw W0 W v xs ds) (hd : ds.length = Col.many (l.map stPc)) => colouredOf_any v xs ds W (h.own.mono (Nat.zero_le _)) h.ls (by rw [h.ls.len, hd]; have := HML.out; omega) (by rw [h.ls.len, hd]; have := HML.out; omega))
      go_wp2_with fail
      refine (HCO2.out _ _ _ _ _ HR1.out (Col.firsts_len _)).mono ?_; rintro e w2 ⟨u, rfl, ho, hb⟩
      have HU0 : Hid (Own w.heap.size w2 u (Col.after (l.map stPc) 0) ∧ Below w.heap.size w w2) := ⟨ho.mono HR1.out.old.size, HR1.out.old.trans (hb.mono HR1.out.old.size)⟩
      clear ho hb HR HR1
      go_wp2_with fail
      go_loopw [48, 10] (fun q u wr => ∃ k : Nat, k ≤ r ∧ q = .int .i64 (k : Int) ∧ Hid (Own w.heap.size wr u (Col.after (l.map stPc) k) ∧ Below w.heap.size w wr)) (fun q _ _ => r - (intOf q).toNat)
      case atStart => exact ⟨0, by omega, rfl, HU0.out⟩
      case round =>
        clear HU0
        obtain ⟨k, hk, rfl, HU⟩ := hrel
        by_cases hlk : k < r
        · have hlkI : (k : Int) < (r : Int) := by omega
          obtain ⟨C, hC⟩ : ∃ C, Col.after (l.map stPc) k = C := ⟨_, rfl⟩
          have HC := Lib.hid hC
          have HCL : Hid (C.length = Col.many (l.map stPc)) := by rw [← hC]; exact Col.after_len _ _
          rw [hC] at HU
          obtain ⟨W, hWe⟩ : ∃ W, W = wr := ⟨_, rfl⟩
          subst hWe
          obtain ⟨gu, cu, hu, _, hgu, hcu1, hcu2, _⟩ := HU.out.1.cells
          unfold maxLen at hcu2
          have hUN := HU.out.1.nums
          have HWB := Lib.hid HU.out.2
          clear HU
          subst hu
          obtain ⟨M, hM⟩ : ∃ M, C.length = M := ⟨_, rfl⟩
          rw [hM] at hUN hcu1 ⊢
          have HM := Lib.hid hM
          have HUN := Lib.hid hUN
          clear hUN hM hC
          have HR0 : Hid (Rw W (W.alloc (.cells #[] 33)) (.slice (some ⟨W.heap.size, 0, none⟩) 0 0) [] (Col.descrs ((l.take 0).map stPc) C)) := Rw.nil W W (Below.refl _ _)
          go_wp2_with fail
          go_loopw [53, 5, 11] (fun q v b wr => ∃ i : Nat, i ≤ N ∧ q = .int .i64 (i : Int) ∧ b = .int .i64 ((Col.many ((l.take i).map stPc) : Nat) : Int) ∧ Hid (∃ xs, Rw W wr v xs (Col.descrs ((l.take i).map stPc) C))) (fun q _ _ _ => N - (intOf q).toNat)
          case atStart => exact ⟨0, by omega, rfl, by simp [Col.many], _, HR0.out⟩
          case round =>
            clear HR0
            obtain ⟨i, hi, rfl, rfl, HE⟩ := hrel
            obtain ⟨xs0, hrw⟩ := HE.out
            have HR := Lib.hid hrw
            clear hrw HE
            by_cases hlt : i < N
            · have hltI2 : (i : Int) < (N : Int) := by omega
              have hil : i < l.length := by rw [HN.out]; exact hlt
              obtain ⟨c0, c1, c2⟩ := ((HG.out.below hglt HWB.out).below (Nat.lt_of_lt_of_le hglt HWB.out.size) HR.out.old).cell i hil
              have hvp := HV.out l[i] (List.getElem_mem hil)
              have HT := Lib.hid (take_snoc l i hil)
              obtain ⟨⟨n, S, R⟩, hp⟩ : ∃ p, l[i] = p := ⟨_, rfl⟩
              rw [hp] at c0 c1 c2 hvp HT
              obtain ⟨n1, n8, hS, hRz⟩ := (show 1 ≤ n ∧ n ≤ 8 ∧ S.size = n ∧ R.size = n * n from hvp)
              clear hp hvp
              have hgl2 : g < wr.heap.size := Nat.lt_of_lt_of_le hglt (Nat.le_trans HWB.out.size HR.out.old.size)
              have c0 : wr.cell? ⟨g, i * 3, none⟩ = some (.int .i64 (n : Int)) := c0
              have c1 : wr.cell? ⟨g, i * 3 + 1, none⟩ = some (.string S) := c1
              have c2 : wr.cell? ⟨g, i * 3 + 2, none⟩ = some (.string R) := c2
              obtain ⟨W4, hW4⟩ : ∃ W4, wr.alloc (.cells #[.int .i64 (n : Int), .string S, .string R] 24) = W4 := ⟨_, rfl⟩
              obtain ⟨X, hX⟩ : ∃ X, wr.heap.size = X := ⟨_, rfl⟩
              obtain ⟨bg, hbg⟩ : ∃ b, Col.many ((l.take i).map stPc) = b := ⟨_, rfl⟩
              have HBG : Hid (Col.many ((l.take (i + 1)).map stPc) = bg + n ∧ Col.descrs ((l.take (i + 1)).map stPc) C = Col.descrs ((l.take i).map stPc) C ++ (List.range n).map (Col.descr (stPc (n, S, R)) ((C.drop bg).take n)) ∧ bg + n ≤ M ∧ M ≤ 16) := by
                have e1 : Col.many ((l.take (i + 1)).map stPc) = bg + n := by rw [HT.out, List.map_append, List.map_singleton, many_snoc, hbg]; rfl
                refine ⟨e1, ?_, ?_, ?_⟩
                · rw [HT.out, List.map_append, List.map_singleton, descrs_snoc, hbg]; rfl
                · rw [← e1, ← HM.out, HCL.out]; exact many_take l _
                · rw [← HM.out, HCL.out]; exact HML.out.2
              rw [hbg]
              have hal0 : Below wr.heap.size wr W4 := by rw [← hW4]; exact (Below.refl _ _).alloc (Nat.le_refl _) _
              have HX0 : Hid (Rw W W4 u5 xs0 (Col.descrs ((l.take i).map stPc) C ++ (List.range 0).map (Col.descr (stPc (n, S, R)) ((C.drop bg).take n))) ∧ SBlk W4 X n S R ∧ u5.ownBlock ≠ some X) := by
                refine ⟨by simpa using HR.out.below hal0, by rw [← hW4, ← hX]; exact SBlk.new wr n S R, fun e => ?_⟩
                rw [← hX] at e
                have := (HR.out.own.own.lt _ e).2
                omega
              have HW := Lib.hid (And.intro hW4 hX)
              clear hW4 hX hal0 hbg
              go_upto_region 24 with fail
              rw [HW.out.1, HW.out.2]
              clear HW HR c0 c1 c2 hgl2
              obtain ⟨a0, a1, a2, _, _, _, hal⟩ := HX0.out.2.1.cells
              have HDC : Hid (∀ (w' : World) (x : Nat), Below W.heap.size W w' → x < n → Calls Tryz.prog 103 #[strV n S R, .int .i64 (x : Int), .slice (some ⟨gu, bg, none⟩) n (cu - bg)] w' (NewNums w' (Col.descr (stPc (n, S, R)) ((C.drop bg).take n) x))) := fun w' x hb hx =>
                describeColour_any n S R x _ _ w' n8 hRz hx (nums_mid (HUN.out.kept (fun i hi hl => hb.block i hl) hb.size) HM.out n1 HBG.out.2.2.1) (by have := HBG.out.2.2.1; have := HM.out; rw [List.length_take, List.length_drop]; omega)
              clear hS hRz
              go_wp2_with fail
              go_loopw [59, 5] (fun q v wr => ∃ x : Nat, x ≤ n ∧ q = .int .i64 (x : Int) ∧ Hid (∃ xs, Rw W wr v xs (Col.descrs ((l.take i).map stPc) C ++ (List.range x).map (Col.descr (stPc (n, S, R)) ((C.drop bg).take n))) ∧ SBlk wr X n S R ∧ v.ownBlock ≠ some X)) (fun q _ _ => n - (intOf q).toNat)
              case atStart => exact ⟨0, by omega, rfl, _, HX0.out⟩
              case round =>
                clear HX0 a0 a1 a2 hal
                obtain ⟨x, hx, rfl, HE⟩ := hrel
                obtain ⟨xs, h1, h2, h3⟩ := HE.out
                have HX : Hid (Rw W wr u5 xs (Col.descrs ((l.take i).map stPc) C ++ (List.range x).map (Col.descr (stPc (n, S, R)) ((C.drop bg).take n))) ∧ SBlk wr X n S R ∧ u5.ownBlock ≠ some X) := ⟨h1, h2, h3⟩
                clear h1 h2 h3 HE
                by_cases hlt2 : x < n
                · have hltJ : (x : Int) < (n : Int) := by omega
                  obtain ⟨a0, a1, a2, f0, f1, f2, hal⟩ := HX.out.2.1.cells
                  go_upto_region 27 with fail
                  have HD : Hid (Rw W wr.drew u5 xs (Col.descrs ((l.take i).map stPc) C ++ (List.range x).map (Col.descr (stPc (n, S, R)) ((C.drop bg).take n))) ∧ SBlk wr.drew X n S R) := ⟨HX.out.1.below (Below.refl _ _).drew, HX.out.2.1.below (Below.refl wr.heap.size wr).drew hal⟩
                  have HCX := Lib.hid (HDC.out wr.drew x HD.out.1.old hlt2)
                  have HXH := Lib.hid HX.out.2.2
                  have HXZ := Lib.hid hal
                  have hb1 : bg + n ≤ 16 := by have := HBG.out; omega
                  have hb2 : bg + n ≤ cu := by have := HBG.out; omega
                  have hb3 : (bg : Int) ≤ (bg : Int) + (n : Int) := by omega
                  have hb4 : (bg : Int) + (n : Int) ≤ (cu : Int) := by omega
                  have hsl : ∀ W, (Instr.sliceAt 33 (.slice (some ⟨gu, 0, none⟩) M cu) (some (.int .i64 (bg : Int))) (some (.int .i64 (IntKind.i64.wrap ((bg : Int) + (n : Int))))) none).run Tryz.prog W = .ok (.slice (some ⟨gu, bg, none⟩) n (cu - bg)) W := fun W => slice_mid Tryz.underlying33 gu M cu bg n W (by omega) hb2 hb1
                  clear HX
                  have HLL : Hid (xs.length ≤ 100000) := by
                    show _ ≤ _
                    rw [HD.out.1.ls.len, List.length_append, Col.descrs_len, List.length_map, List.length_range]
                    have := HMT.out i (by rw [HN.out]; exact hi)
                    omega
                  go_region_law (first
                    | (refine step_ownV HD3.out.1.own HLL rfl (.tmp 62) (.tmp 73) rfl (.slice y1 y2 y3) rfl _ rfl rfl rfl ?_; intro g2 cap2 w6 ho hg hat; have hat2 : (Value.slice (some ⟨g2, 0, none⟩) (xs.length + 1) cap2).ownBlock = u5.ownBlock ∨ ∃ k, (Value.slice (some ⟨g2, 0, none⟩) (xs.length + 1) cap2).ownBlock = some k ∧ w3.heap.size ≤ k := hat.imp (fun e => e.symm) (fun h => ⟨_, rfl, h⟩); have HR6 := Lib.hid (HD3.out.1.push HD3.out.2.2.1 HD3.out.2.2.2 ho hg hat2); have HB6 := Lib.hid (And.intro ((hg.block X HD3.out.2.1.cells.2.2.2.2.2.2 (fun e => HXH.out e.symm)).trans HD3.out.2.1) (show (Value.slice (some ⟨g2, 0, none⟩) (xs.length + 1) cap2).ownBlock ≠ some X from by rcases hat2 with e | ⟨q, e, hq⟩; (rw [e]; exact HXH.out); (rw [e]; intro e2; injection e2 with e2; have := HD3.out.2.1.cells.2.2.2.2.2.2; have := HZ3.out; have := HXZ.out; omega))); clear ho hg hat hat2)
                    | (go_simp; go_at_call 103; refine HCX.out.mono ?_; rintro e w3 ⟨y, rfl, ho, hb⟩; obtain ⟨y1, y2, y3, rfl⟩ := ho.nums.sl; have HD3 := Lib.hid (And.intro (HD.out.1.below hb) (And.intro (HD.out.2.below hb HD.out.2.cells.2.2.2.2.2.2) (And.intro ho.nums (fresh_ne ho HD.out.1.own)))); have HZ3 := Lib.hid hb.size; clear ho hb))
                  all_goals
                    have HN2 : Hid (∃ xs', Rw W w6 (.slice (some ⟨g2, 0, none⟩) (xs.length + 1) cap2) xs' (Col.descrs ((l.take i).map stPc) C ++ (List.range (x + 1)).map (Col.descr (stPc (n, S, R)) ((C.drop bg).take n))) ∧ SBlk w6 X n S R ∧ (Value.slice (some ⟨g2, 0, none⟩) (xs.length + 1) cap2).ownBlock ≠ some X) := ⟨_, by rw [range_map_succ, ← List.append_assoc]; exact HR6.out, HB6.out⟩
                    clear HR6 HB6 HD3 HD HCX HLL hsl
                    go_wp2_with fail
                    go_roundw
                    case rel => exact ⟨x + 1, by omega, by go_num, HN2.out⟩
                    case measure => simp [intOf]; omega
                · obtain rfl : x = n := by omega
                  have hltJ : ¬ (x : Int) < (x : Int) := by omega
                  have HN2 : Hid (Rw W wr u5 xs (Col.descrs ((l.take (i + 1)).map stPc) C)) := by
                    show Rw _ _ _ _ _
                    rw [HBG.out.2.1]
                    exact HX.out.1
                  obtain ⟨a0, a1, a2, _, _, _, hal⟩ := HX.out.2.1.cells
                  have HBE : Hid (wrap64 ((bg : Int) + (x : Int)) = ((Col.many ((l.take (i + 1)).map stPc) : Nat) : Int)) := by
                    show _ = _
                    rw [HBG.out.1]
                    have := HBG.out.2.2
                    unfold wrap64
                    omega
                  clear HX
                  go_wp2_with fail
                  go_roundw
                  case rel => exact ⟨i + 1, by omega, by go_num, by rw [HBE.out], _, HN2.out⟩
                  case measure => simp [intOf]; omega
            · obtain rfl : N = i := by omega
              have hltI2 : ¬ (N : Int) < (N : Int) := by omega
              have HR1 : Hid (Rw W wr u5 xs0 (Col.descrs (l.map stPc) C)) := by
                have h := HR.out
                rw [← HN.out, List.take_length] at h
                exact h
              go_wp2_with fail
              refine (HCO2.out _ _ _ _ _ HR1.out (Col.descrs_len _ _)).mono ?_; rintro e w2 ⟨u, rfl, ho, hb⟩
              have HU0 : Hid (Own w.heap.size w2 u (Col.after (l.map stPc) (k + 1)) ∧ Below w.heap.size w w2) := by
                refine ⟨?_, HWB.out.trans ((HR1.out.old.trans (hb.mono HR1.out.old.size)).mono HWB.out.size)⟩
                show Own _ _ _ (Col.cols (Col.descrs _ (Col.after _ k)))
                rw [HC.out]
                exact ho.mono (Nat.le_trans HWB.out.size HR1.out.old.size)
              clear ho hb HR HR1
              go_wp2_with fail
              go_roundw
              case rel => exact ⟨k + 1, by omega, by go_num, HU0.out⟩
              case measure => simp [intOf]; omega
        · obtain rfl : r = k := by omega
          have hlkI : ¬ (r : Int) < (r : Int) := by omega
          go_wp2_with fail
          go_ret
          exact ⟨_, rfl, HU.out⟩
end Go.Proofs.YtofmagiahmmmgaaGreatDoor
