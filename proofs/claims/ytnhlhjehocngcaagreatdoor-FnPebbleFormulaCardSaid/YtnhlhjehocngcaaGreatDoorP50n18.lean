/- Contracts of the program's functions and what they compute: part 18. Conditions: those that each theorem states. -/
import Derived.Test.YtnhlhjehocngcaaGreatDoorP50n12
import Derived.Test.YtnhlhjehocngcaaGreatDoorP50n16
import Derived.Test.YtnhlhjehocngcaaGreatDoorP50n17
namespace Go.Proofs.YtnhlhjehocngcaaGreatDoor
open Go.RowKit
set_option linter.unusedVariables false
set_option maxRecDepth 100000
def sgL (L : List Int) : List UInt8 := L.map fun x => if x < 0 then (45 : UInt8) else 43
theorem sgL_snoc (L : List Int) (x : Int) : sgL (L ++ [x]) = sgL L ++ [if x < 0 then 45 else 43] := by simp [sgL]
theorem layN_snoc (L : List Int) (x : Int) : layN (L ++ [x]) = if 0 ≤ x then layN L ++ [x.toNat] else layN L := by
  unfold layN
  rw [List.filter_append, List.map_append]
  by_cases h : 0 ≤ x
  · rw [if_pos h, List.filter_cons_of_pos (by simpa using h)]; rfl
  · rw [if_neg h, List.filter_cons_of_neg (by simpa using h)]; simp
theorem layN_le (L : List Int) : (layN L).length ≤ L.length := by
  unfold layN
  rw [List.length_map]
  exact List.length_filter_le _ _
theorem atoms_le (a : Gs.St) {la : List Nat} (h : la.length ≤ 3) : (Gs.atoms a la).length ≤ 84 := by
  have h1 := atomsTo_le a la la.length (by omega)
  unfold Gs.atoms
  omega
/-- What l7Atoms keeps. -/
structure La (w : World) (n : Int) (S R : ByteArray) (v : Value) (L : List Nat) (wr : World) : Prop where
  a : SBlk wr w.heap.size n S R
  own : Own (w.heap.size + 1) wr v L
  old : Below w.heap.size w wr
theorem La.push {w wr w' : World} {n : Int} {S R : ByteArray} {v v' : Value} {L L' : List Nat} (h : La w n S R v L wr) (ho : Own (w.heap.size + 1) w' v' L') (hg : wr.grownBy w' v.ownBlock) : La w n S R v' L' w' := by
  have hr : ∀ k, v.ownBlock = some k → w.heap.size + 1 ≤ k := fun k hk => (h.own.own.lt k hk).1
  exact ⟨(hg.block _ h.a.cells.2.2.2.2.2.2 (fun e => by have := hr _ e.symm; omega)).trans h.a, ho, h.old.grown hg h.old.size (fun k hk => by have := hr k hk; omega)⟩
set_option maxHeartbeats 1000000 in
theorem l7Atoms_any (n : Nat) (S R : ByteArray) (L : List Int) (v : Value) (w : World) (hS : S.size = n) (hR : R.size = n * n) (hn : n ≤ 8) (hk : L.length ≤ 3) (hv : IntsAt w v L) (hp : Pbs n L) :
    Calls Tryz.prog 127 #[strV n S R, v] w fun e w' => e = .returned (.string (txt (pebAt (stOf n S R) L))) ∧ Below w.heap.size w w' := by
  have HB : Hid (SBlk (boxS w n S R) w.heap.size n S R ∧ Below w.heap.size w (boxS w n S R) ∧ (boxS w n S R).heap.size = w.heap.size + 1) := ⟨boxS_SBlk _ _ _ _, boxS_below _ _ _ _, boxS_size _ _ _ _⟩
  obtain ⟨W, hW⟩ : ∃ W, boxS w n S R = W := ⟨_, rfl⟩
  rw [hW] at HB
  unfold boxS at hW
  have HW := Lib.hid hW
  have HLA : Hid (La w n S R (.slice (some ⟨W.heap.size, 0, none⟩) 0 0) (layN (L.take 0)) (W.alloc (.cells #[] 3))) :=
    ⟨HB.out.1.below ((Below.refl _ _).alloc (Nat.le_refl _) _) (by rw [HB.out.2.2]; omega), Own.lit (w.heap.size + 1) W W.heap.size rfl (by rw [HB.out.2.2]; omega), HB.out.2.1.alloc HB.out.2.1.size _⟩
  have HPB := Lib.hid hp
  have HAT := Lib.hid (fun w va la h1 h2 h3 => l5Atoms_any n S R va la w hS hR hn h1 h2 h3)
  have HRES : Hid (txt (pebAt (stOf n S R) L) = txt (sgL L) ++ txt (Gs.atoms (stOf n S R) (layN L))) := by show _ = _; rw [← txt_append]; rfl
  rw [HRES.out]
  obtain ⟨AT, hat⟩ : ∃ AT, txt (Gs.atoms (stOf n S R) (layN L)) = AT := ⟨_, rfl⟩
  have HATE := Lib.hid hat
  rw [hat]
  clear hat
  obtain ⟨a, ca, rfl, l1, l2, l3⟩ := hv.view
  unfold maxLen at l2
  have HC := Lib.hid l3
  clear hW l3 hv hp hS hR
  unfold strV at HAT
  unfold strV
  go_enter Tryz.func127, Tryz.ntmps127
  go_upto_region 1 with fail
  rw [HW.out]
  have HLL : Hid (L.length ≤ 3) := hk
  go_wp2_with fail
  go_loopw [7, 5, 6] (fun q o p wr => ∃ (j : Nat), j ≤ L.length ∧ q = .int .i64 (j : Int) ∧ ∃ out : ByteArray, o = .string out ∧ out.size ≤ 3 ∧ Hid (out = txt (sgL (L.take j)) ∧ out.size = j) ∧ Hid (La w n S R p (layN (L.take j)) wr)) (fun q _ _ _ => L.length - (intOf q).toNat)
  case atStart => exact ⟨0, by omega, rfl, _, rfl, by decide, ⟨rfl, rfl⟩, HLA⟩
  case round =>
    clear HLA HB HW
    obtain ⟨j, hj, rfl, out, rfl, hos, HO, HP⟩ := hrel
    by_cases hlt : j < L.length
    · have hjI : (j : Int) < (L.length : Int) := by omega
      obtain ⟨g, o, rfl, hg, hc⟩ := HC.out (by omega)
      have d1 := (HP.out.old.cell (p := ⟨g, o + j, none⟩) hg).trans (hc j hlt)
      have HTK : Hid (L.take (j + 1) = L.take j ++ [L.getD j 0]) := by
        show _ = _
        rw [List.take_succ_eq_append_getElem hlt, List.getD_eq_getElem?_getD, List.getElem?_eq_getElem hlt]; rfl
      have hx := HPB.out.at hlt
      obtain ⟨x, hxe⟩ : ∃ x, L.getD j 0 = x := ⟨_, rfl⟩
      rw [hxe] at d1 hx HTK
      have hz1 : ¬ 9223372036854775807 < out.size + (⟨#[45]⟩ : ByteArray).size := by show ¬ _ < out.size + 1; omega
      have hz2 : ¬ 9223372036854775807 < out.size + (⟨#[43]⟩ : ByteArray).size := by show ¬ _ < out.size + 1; omega
      have hos2 : out.size + 1 ≤ 3 := by have := HO.out.2; omega
      clear hxe hc
      by_cases hneg : x < 0
      · have hnB : decide (x < 0) = true := decide_eq_true hneg
        have HO2 : Hid (out ++ ⟨#[45]⟩ = txt (sgL (L.take (j + 1))) ∧ (out ++ ⟨#[45]⟩).size = j + 1) := by
          refine ⟨?_, by rw [ByteArray.size_append, HO.out.2]; rfl⟩
          rw [HTK.out, sgL_snoc, txt_append, ← HO.out.1, if_pos hneg]; rfl
        have HP2 : Hid (La w n S R u6 (layN (L.take (j + 1))) wr) := by rw [HTK.out, layN_snoc, if_neg (by omega)]; exact HP.out
        go_wp2_with fail
        go_roundw
        case rel => exact ⟨j + 1, by omega, by go_num, _, rfl, by rw [ByteArray.size_append]; exact hos2, HO2, HP2⟩
        case measure => simp [intOf]; omega
      · have hnB : decide (x < 0) = false := decide_eq_false hneg
        obtain ⟨xn, rfl⟩ := Int.eq_ofNat_of_zero_le (show 0 ≤ x by omega)
        have HO2 : Hid (out ++ ⟨#[43]⟩ = txt (sgL (L.take (j + 1))) ∧ (out ++ ⟨#[43]⟩).size = j + 1) := by
          refine ⟨?_, by rw [ByteArray.size_append, HO.out.2]; rfl⟩
          rw [HTK.out, sgL_snoc, txt_append, ← HO.out.1, if_neg hneg]; rfl
        have HLY : Hid (layN (L.take (j + 1)) = layN (L.take j) ++ [xn]) := by show _ = _; rw [HTK.out, layN_snoc, if_pos (by omega)]; rfl
        have HL2 : Hid ((layN (L.take j)).length ≤ 2000000) := by
          have := layN_le (L.take j)
          rw [List.length_take] at this
          show _ ≤ _
          omega
        go_wp2_with (first | (at_builtin; refine wpList_own1 HP.out.own HL2.out rfl (.tmp 24) (.tmp 29) rfl xn _ rfl rfl rfl ?_; intro v' w' ho hg; have HP9 := Lib.hid (HP.out.push ho hg); clear ho hg) | fail)
        go_roundw
        case rel => exact ⟨j + 1, by omega, by go_num, _, rfl, by rw [ByteArray.size_append]; exact hos2, HO2, by rw [HLY.out]; exact HP9⟩
        case measure => simp [intOf]; omega
    · obtain rfl : j = L.length := by omega
      rw [List.take_length] at HO HP
      have HN := Lib.hid HP.out.own.nums
      obtain ⟨s0, s1, s2, _, _, _, hl⟩ := HP.out.a.cells
      obtain ⟨pg, pc, rfl, _, _, _, _, _⟩ := HP.out.own.cells
      have HA := Lib.hid (HAT.out wr _ _ HN.out (by have := layN_le L; omega) (layN_lt HPB.out))
      have HE := Lib.hid HO.out.1
      rw [HATE.out] at HA
      have hAS : AT.size ≤ 1000 := by
        rw [← HATE.out, txt_size]
        have := atoms_le (stOf n S R) (la := layN L) (by have := layN_le L; omega)
        omega
      have hz : ¬ 9223372036854775807 < out.size + AT.size := by omega
      clear hAS
      go_wp2_with fail
      refine HA.out.mono ?_; rintro e w3 ⟨rfl, hb3⟩
      have HO3 := Lib.hid (HP.out.old.trans (hb3.mono HP.out.old.size))
      clear hb3
      go_wp2_with fail
      go_ret
      exact ⟨ret_str (congrArg (fun z => z ++ AT) HE.out), HO3.out⟩
/-- A boxed structure. -/
structure Rst2 (w w0 : World) (n : Int) (S R : ByteArray) (wr : World) : Prop where
  a : SBlk wr w.heap.size n S R
  old : Below w.heap.size w wr
  old2 : Below w0.heap.size w0 wr
theorem Rst2.below {w w0 wr w' : World} {n : Int} {S R : ByteArray} (h : Rst2 w w0 n S R wr) (hb : Below wr.heap.size wr w') : Rst2 w w0 n S R w' := ⟨h.a.below hb h.a.cells.2.2.2.2.2.2, h.old.trans (hb.mono h.old.size), h.old2.trans (hb.mono h.old2.size)⟩
set_option maxHeartbeats 1000000 in
theorem l7Pebbles_any (n : Int) (S R : ByteArray) (L : List Int) (v : Value) (w : World) (hS : S.size ≤ 9223372036854775807) (hR : R.size ≤ 9223372036854775807) (hv : IntsAt w v L) :
    Calls Tryz.prog 68 #[strV n S R, v] w fun e w' => e = .returned (.bool (validB n S R && pebsB n L)) ∧ Below w.heap.size w w' := by
  have HB : Hid (SBlk (boxS w n S R) w.heap.size n S R ∧ Below w.heap.size w (boxS w n S R) ∧ (boxS w n S R).heap.size = w.heap.size + 1) := ⟨boxS_SBlk _ _ _ _, boxS_below _ _ _ _, boxS_size _ _ _ _⟩
  have HV := Lib.hid (fun w => specValid_any n S R w hS hR)
  have HI := Lib.hid (fun a b c w => l1In_any a b c w)
  obtain ⟨a, ca, rfl, l1, l2, l3⟩ := (hv.below HB.out.2.1).view
  unfold maxLen at l2
  have HC := Lib.hid l3
  clear l3 hv
  have HGOOD : Hid (∀ k, k ≤ L.length → (∀ j, j < k → pebR n (L.getD j 0) = true) → k = L.length → pebA n L = true) := fun k _ h e => pebA_good (fun j hj => h j (by omega))
  have HBAD : Hid (∀ k, k < L.length → pebR n (L.getD k 0) = false → pebA n L = false) := fun k hk h => pebA_bad hk h
  have HPS : Hid (pebsB n L = (decide (1 ≤ L.length) && decide (L.length ≤ 3) && pebA n L)) := rfl
  have HIN : Hid (inB (L.length : Int) 1 3 = (decide (1 ≤ L.length) && decide (L.length ≤ 3))) := by
    show _ = _
    unfold inB
    rw [Bool.eq_iff_iff, Bool.and_eq_true, Bool.and_eq_true, decide_eq_true_iff, decide_eq_true_iff, decide_eq_true_iff, decide_eq_true_iff]
    omega
  have HNV : Hid (validB n S R = true → 1 ≤ n ∧ n ≤ 8) := fun h => by
    unfold validB inB at h
    simp at h
    omega
  have HRES : Hid (∀ r, validB n S R = r → (validB n S R && pebsB n L) = (r && pebsB n L)) := fun r h => by rw [h]
  unfold boxS at HB HC
  unfold strV at HV
  cases hval : validB n S R
  · rw [show (false && pebsB n L) = false from rfl]
    rw [hval] at HV
    clear HGOOD HBAD HPS HIN HNV HRES hval
    unfold strV
    go_enter Tryz.func68, Tryz.ntmps68
    go_wp2_with fail
    go_loopw [5] (fun q wr => ∃ k : Nat, k ≤ L.length ∧ q = .int .i64 (k : Int) ∧ Hid (Rst2 w (w.alloc (.cells #[.int .i64 n, .string S, .string R] 24)) n S R wr)) (fun q _ => L.length - (intOf q).toNat)
    case atStart => exact ⟨0, by omega, rfl, HB.out.1, HB.out.2.1, Below.refl _ _⟩
    case round =>
      obtain ⟨k, hk, rfl, HP⟩ := hrel
      obtain ⟨s0, s1, s2, _, _, _, hl⟩ := HP.out.a.cells
      by_cases hlt : k < L.length
      · have hkI : (k : Int) < (L.length : Int) := by omega
        obtain ⟨g, o, rfl, hg, hc⟩ := HC.out (by omega)
        have d1 := (HP.out.old2.cell (p := ⟨g, o + k, none⟩) hg).trans (hc k hlt)
        obtain ⟨x, hx⟩ : ∃ x, L.getD k 0 = x := ⟨_, rfl⟩
        rw [hx] at d1
        obtain ⟨m1, hm1⟩ : ∃ m1, IntKind.i64.wrap (n - 1) = m1 := ⟨_, rfl⟩
        have hI := fun w => HI.out x (-1) m1 w
        obtain ⟨b, hb⟩ : ∃ b, inB x (-1) m1 = b := ⟨_, rfl⟩
        rw [hb] at hI
        have HI1 := Lib.hid hI
        have f0 := fun s => Since.cell d1 s
        have f1 := fun s => Since.cell s0 s
        clear hc hx hI hb
        go_wp2_with fail
        refine wp_region_since (by kernel_rfl) (by kernel_rfl) ?_
        repeat (go_big_quiet_step ((with_reducible exact Since.call_same (HI1.out _))))
        refine wpQuiet_nil ?_
        intro w2 hb2
        have HP2 := Lib.hid (HP.out.below hb2)
        clear hb2 f0 f1
        cases b
        · go_wp2_with fail
          go_ret
          exact ⟨rfl, HP2.out.old⟩
        · go_wp2_with fail
          go_roundw
          case rel => exact ⟨k + 1, by omega, by go_num, HP2⟩
          case measure => simp [intOf]; omega
      · obtain rfl : k = L.length := by omega
        go_wp2_with fail
        refine (HV.out _).mono ?_; rintro e w3 ⟨rfl, hb3⟩
        have HP3 := Lib.hid (HP.out.below hb3)
        clear hb3
        go_wp2_with fail
        go_ret
        exact ⟨rfl, HP3.out.old⟩
  · obtain ⟨hn1, hn8⟩ := HNV.out hval
    rw [show (true && pebsB n L) = pebsB n L from rfl]
    rw [hval] at HV
    have HPI : Hid (∀ x, inB x (-1) (n - 1) = pebR n x) := fun x => by
      unfold inB pebR
      rw [Bool.eq_iff_iff, Bool.and_eq_true, Bool.and_eq_true]
      simp only [decide_eq_true_iff]
      omega
    obtain ⟨PA, hPA⟩ : ∃ r, pebA n L = r := ⟨_, rfl⟩
    rw [hPA] at HGOOD HBAD HPS
    obtain ⟨PS, hPS⟩ : ∃ r, pebsB n L = r := ⟨_, rfl⟩
    rw [hPS] at HPS ⊢
    clear hPA hPS HRES HNV hval
    unfold strV
    go_enter Tryz.func68, Tryz.ntmps68
    go_wp2_with fail
    go_loopw [5] (fun q wr => ∃ k : Nat, k ≤ L.length ∧ q = .int .i64 (k : Int) ∧ Hid (∀ j, j < k → pebR n (L.getD j 0) = true) ∧ Hid (Rst2 w (w.alloc (.cells #[.int .i64 n, .string S, .string R] 24)) n S R wr)) (fun q _ => L.length - (intOf q).toNat)
    case atStart => exact ⟨0, by omega, rfl, fun j hj => by omega, HB.out.1, HB.out.2.1, Below.refl _ _⟩
    case round =>
      obtain ⟨k, hk, rfl, HG, HP⟩ := hrel
      obtain ⟨s0, s1, s2, _, _, _, hl⟩ := HP.out.a.cells
      by_cases hlt : k < L.length
      · have hkI : (k : Int) < (L.length : Int) := by omega
        obtain ⟨g, o, rfl, hg, hc⟩ := HC.out (by omega)
        have d1 := (HP.out.old2.cell (p := ⟨g, o + k, none⟩) hg).trans (hc k hlt)
        have HBK := Lib.hid (HBAD.out k hlt)
        have HGK : Hid (pebR n (L.getD k 0) = true → ∀ j, j < k + 1 → pebR n (L.getD j 0) = true) := fun h j hj => by
          by_cases e : j = k
          · rw [e]; exact h
          · exact HG.out j (by omega)
        obtain ⟨x, hx⟩ : ∃ x, L.getD k 0 = x := ⟨_, rfl⟩
        rw [hx] at d1
        have hI := fun w => HI.out x (-1) (n - 1) w
        rw [HPI.out] at hI
        rw [hx] at HBK HGK
        generalize pebR n x = b at *
        have HI1 := Lib.hid hI
        have f0 := fun s => Since.cell d1 s
        have f1 := fun s => Since.cell s0 s
        clear hc hx hI
        go_wp2_with fail
        refine wp_region_since (by kernel_rfl) (by kernel_rfl) ?_
        repeat (go_big_quiet_step ((with_reducible exact Since.call_same (HI1.out _))))
        refine wpQuiet_nil ?_
        intro w2 hb2
        have HP2 := Lib.hid (HP.out.below hb2)
        clear hb2 f0 f1
        cases b
        · have HE : Hid (false = PS) := by show _ = _; rw [HPS.out, HBK.out rfl, Bool.and_false]
          go_wp2_with fail
          go_ret
          exact ⟨ret_bool HE.out, HP2.out.old⟩
        · have HG2 := Lib.hid (HGK.out rfl)
          go_wp2_with fail
          go_roundw
          case rel => exact ⟨k + 1, by omega, by go_num, HG2, HP2⟩
          case measure => simp [intOf]; omega
      · obtain rfl : k = L.length := by omega
        have HI2 := Lib.hid (fun w => HI.out (L.length : Int) 1 3 w)
        rw [HIN.out] at HI2
        have HPE : Hid ((decide (1 ≤ L.length) && decide (L.length ≤ 3)) = PS) := by show _ = _; rw [HPS.out, HGOOD.out _ (Nat.le_refl _) HG.out rfl, Bool.and_true]
        rw [HPE.out] at HI2
        go_wp2_with fail
        refine (HV.out _).mono ?_; rintro e w3 ⟨rfl, hb3⟩
        have HP3 := Lib.hid (HP.out.below hb3)
        clear hb3
        go_wp2_with fail
        refine (HI2.out _).mono ?_; rintro e w4 ⟨rfl, hw4⟩; rw [← hw4]; clear hw4
        cases PS
        all_goals
          go_wp2_with fail
          go_ret
          exact ⟨rfl, HP3.out.old⟩
theorem beq_f {a b : Bool} (h : (!(a == b)) = false) : a = b := by revert h; cases a <;> cases b <;> decide
theorem beq_t {a b : Bool} (h : (!(a == b)) = true) : a ≠ b := by revert h; cases a <;> cases b <;> decide
set_option maxHeartbeats 2000000 in
theorem l7Ready_any (n : Int) (S R : ByteArray) (m : Int) (S2 R2 : ByteArray) (L M : List Int) (v u : Value) (w : World) (hS : S.size ≤ 9223372036854775807) (hR : R.size ≤ 9223372036854775807) (hS2 : S2.size ≤ 9223372036854775807) (hR2 : R2.size ≤ 9223372036854775807) (hg : IntsAt w v L) (hg2 : IntsAt w u M) :
    Calls Tryz.prog 30 #[strV n S R, v, strV m S2 R2, u] w fun en w' => en = .returned (.bool (pebRdB n S R L m S2 R2 M)) ∧ Below w.heap.size w w' := by
  have HT := Lib.hid (Bxp.new w n S R m S2 R2)
  unfold boxS at HT
  have HA := Lib.hid (fun w' (h : Below w.heap.size w w') => l7Pebbles_any n S R L v w' hS hR (hg.below h))
  have HB := Lib.hid (fun w' (h : Below w.heap.size w w') => l7Pebbles_any m S2 R2 M u w' hS2 hR2 (hg2.below h))
  have HRES : Hid (pebRdB n S R L m S2 R2 M = ((validB n S R && pebsB n L) && ((validB m S2 R2 && pebsB m M) && (decide (L.length = M.length) && sideB L M)))) := by
    show _ = _
    unfold pebRdB
    cases validB n S R <;> cases validB m S2 R2 <;> cases pebsB n L <;> cases pebsB m M <;> rfl
  rw [HRES.out]
  obtain ⟨a1, ca, rfl, la1, la2, hva⟩ := hg.view
  obtain ⟨b1, cb, rfl, lb1, lb2, hvb⟩ := hg2.view
  unfold maxLen at la2 lb2
  have HVA := Lib.hid hva
  have HVB := Lib.hid hvb
  clear hg hg2 hva hvb
  have HSB := Lib.hid (fun k hk h => side_bad (L := L) (M := M) (k := k) hk h)
  have HSG := Lib.hid (fun h => side_good (L := L) (M := M) h)
  generalize (validB n S R && pebsB n L) = r1 at *
  generalize (validB m S2 R2 && pebsB m M) = r2 at *
  generalize sideB L M = r5 at *
  unfold strV at HA HB
  unfold strV
  obtain ⟨c0, c1, c2, f0, f1, f2, hl1⟩ := HT.out.a.cells
  cases r1 with
  | false =>
    go_enter Tryz.func30, Tryz.ntmps30
    go_wp2_with fail
    refine (HA.out _ HT.out.old).mono ?_; rintro e w1 ⟨rfl, hb⟩
    have HT3 := Lib.hid (HT.out.below hb); clear hb c0 c1 c2 f0 f1 f2 hl1
    go_wp2_with fail
    go_ret
    exact ⟨rfl, HT3.out.old⟩
  | true =>
    cases r2 with
    | false =>
      go_enter Tryz.func30, Tryz.ntmps30
      go_wp2_with fail
      refine (HA.out _ HT.out.old).mono ?_; rintro e w1 ⟨rfl, hb⟩
      have HT3 := Lib.hid (HT.out.below hb); clear hb c0 c1 c2 f0 f1 f2 hl1
      obtain ⟨d0, d1, d2, _, _, _, _⟩ := HT3.out.b.cells
      go_wp2_with fail
      refine (HB.out _ HT3.out.old).mono ?_; rintro e w2 ⟨rfl, hb⟩
      have HT4 := Lib.hid (HT3.out.below hb); clear hb d0 d1 d2
      go_wp2_with fail
      go_ret
      exact ⟨rfl, HT4.out.old⟩
    | true =>
      go_enter Tryz.func30, Tryz.ntmps30
      go_wp2_with fail
      refine (HA.out _ HT.out.old).mono ?_; rintro e w1 ⟨rfl, hb⟩
      have HT3 := Lib.hid (HT.out.below hb); clear hb c0 c1 c2 f0 f1 f2 hl1
      obtain ⟨d0, d1, d2, _, _, _, _⟩ := HT3.out.b.cells
      go_wp2_with fail
      refine (HB.out _ HT3.out.old).mono ?_; rintro e w2 ⟨rfl, hb⟩
      have HT4 := Lib.hid (HT3.out.below hb); clear hb d0 d1 d2
      by_cases hlml : L.length = M.length
      · have hle : ((L.length : Int) == (M.length : Int)) = true := by rw [beq_iff_eq]; omega
        have HLM := Lib.hid hlml
        clear hlml
        have HDE : Hid ((true && (true && (decide (L.length = M.length) && r5))) = r5) := by show _ = _; rw [decide_eq_true HLM.out]; rfl
        go_wp2_with fail
        go_loopw [9] (fun q wr => ∃ (k : Nat), k ≤ L.length ∧ q = .int .i64 (k : Int) ∧ Hid (∀ j, j < k → decide (L.getD j 0 < 0) = decide (M.getD j 0 < 0)) ∧ Hid (Below w.heap.size w wr)) (fun q _ => L.length - (intOf q).toNat)
        case atStart => exact ⟨0, by omega, rfl, fun j hj => by omega, HT4.out.old⟩
        case round =>
          clear HT4 HT3
          obtain ⟨k, hk, rfl, HK, HO⟩ := hrel
          by_cases hlt : k < L.length
          · have hkI : (k : Int) < (L.length : Int) := by omega
            have hkI2 : (k : Int) < (M.length : Int) := by have := HLM.out; omega
            obtain ⟨ga, oa, rfl, hga, hca⟩ := HVA.out (by omega)
            obtain ⟨gb, ob, rfl, hgb, hcb⟩ := HVB.out (by omega)
            have d1 := (HO.out.cell (p := ⟨ga, oa + k, none⟩) hga).trans (hca k hlt)
            have d2 := (HO.out.cell (p := ⟨gb, ob + k, none⟩) hgb).trans (hcb k (by omega))
            have HSK := Lib.hid (HSB.out k hlt)
            have HKN : Hid (decide (L.getD k 0 < 0) = decide (M.getD k 0 < 0) → ∀ j, j < k + 1 → decide (L.getD j 0 < 0) = decide (M.getD j 0 < 0)) := fun h j hj => by
              by_cases e : j = k
              · rw [e]; exact h
              · exact HK.out j (by omega)
            obtain ⟨x, hx⟩ : ∃ x, L.getD k 0 = x := ⟨_, rfl⟩
            obtain ⟨y, hy⟩ : ∃ x, M.getD k 0 = x := ⟨_, rfl⟩
            rw [hx] at d1 HSK HKN
            rw [hy] at d2 HSK HKN
            obtain ⟨bx, hbx⟩ : ∃ b, decide (x < 0) = b := ⟨_, rfl⟩
            obtain ⟨by', hby⟩ : ∃ b, decide (y < 0) = b := ⟨_, rfl⟩
            rw [hbx, hby] at HSK HKN
            have f0 := fun s => Since.cell d1 s
            have f1 := fun s => Since.cell d2 s
            clear hx hy hca hcb
            go_wp2_with fail
            refine wp_region_since (by kernel_rfl) (by kernel_rfl) ?_
            repeat (go_big_quiet_step (fail))
            refine wpQuiet_nil ?_
            intro w9 hb9
            have HO9 := Lib.hid (HO.out.trans (hb9.mono HO.out.size))
            clear hb9 f0 f1
            obtain ⟨zz, hzz⟩ : ∃ z, (!(bx == by')) = z := ⟨_, rfl⟩
            rw [hzz]
            cases zz
            · have HK2 := Lib.hid (HKN.out (beq_f hzz))
              clear hzz hbx hby HSK HKN
              go_wp2_with fail
              go_roundw
              case rel => exact ⟨k + 1, by omega, by go_num, HK2, HO9⟩
              case measure => simp [intOf]; omega
            · have HE : Hid (false = r5) := (HSK.out (beq_t hzz)).symm
              clear hzz hbx hby HSK HKN
              go_wp2_with fail
              go_ret
              exact ⟨ret_bool (HE.out.trans HDE.out.symm), HO9.out⟩
          · obtain rfl : k = L.length := by omega
            have HE : Hid (true = r5) := (HSG.out (fun j hj => HK.out j hj)).symm
            go_wp2_with fail
            go_ret
            exact ⟨ret_bool (HE.out.trans HDE.out.symm), HO.out⟩
      · have hle : ((L.length : Int) == (M.length : Int)) = false := by rw [beq_eq_false_iff_ne]; omega
        have HDE : Hid ((true && (true && (decide (L.length = M.length) && r5))) = false) := by show _ = _; rw [decide_eq_false hlml]; rfl
        clear hlml
        go_wp2_with fail
        go_ret
        exact ⟨ret_bool HDE.out.symm, HT4.out.old⟩
end Go.Proofs.YtnhlhjehocngcaaGreatDoor
