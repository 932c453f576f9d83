/- Contracts of the program's functions and what they compute: part 30. Conditions: those that each theorem states. -/
import Derived.Test.YtfhogenjpepfnaaGreatDoorP51n28
import Derived.Test.YtfhogenjpepfnaaGreatDoorP51n29
import Derived.Test.YtfhogenjpepfnaaGreatDoorP51n5
import Derived.Test.YtfhogenjpepfnaaGreatDoorP51n6
import Derived.Deep.RegionHeld3
import Derived.Deep.DeepCutAuto
namespace Go.Proofs.YtfhogenjpepfnaaGreatDoor
open Go.RowKit
set_option linter.unusedVariables false
set_option maxRecDepth 100000
theorem bfsIn_len : ∀ (L : List Nat) (d : List Int) (q : List Nat) (v : Nat), (bfsIn d q v L).1.length = d.length
  | [], d, q, v => rfl
  | y :: ys, d, q, v => by
    unfold bfsIn
    split
    · rw [bfsIn_len ys, List.length_set]
    · exact bfsIn_len ys d q v
theorem bfs_len (nb : Nat → List Nat) : ∀ (f : Nat) (d : List Int) (q : List Nat), (bfs nb f d q).length = d.length
  | 0, d, q => rfl
  | f + 1, d, [] => rfl
  | f + 1, d, v :: q => by
    unfold bfs
    rw [bfs_len nb f, bfsIn_len]
theorem distL_len (n : Nat) (R : ByteArray) (x : Nat) : (distL n R x).length = n := by
  unfold distL
  rw [bfs_len]
  simp
/-- Whether one element is connected with another. -/
def piF (n : Nat) (R : ByteArray) (x y : Nat) : Bool := decide (0 ≤ (distL n R x).getD y 0)
set_option maxHeartbeats 1000000 in
theorem piecesOf1_any (n x y : Nat) (S R : ByteArray) (p : Nat) (w : World) (hn : n ≤ 8) (hR : R.size = n * n) (hx : x < n) (hy : y < n) (hp : SBlk w p n S R) :
    Calls Tryz.prog 27 #[.int .i64 (x : Int), .int .i64 (y : Int), .pointer (some ⟨p, 0, none⟩)] w fun e w' => e = .returned (.bool (piF n R x y)) ∧ Below w.heap.size w w' := by
  have HI := Lib.hid (fun w => distancesFrom_any n S R x hn hR hx w)
  have hl : (distL n R x).length = n := distL_len n R x
  obtain ⟨z, hz⟩ : ∃ z, (distL n R x).getD y 0 = z := ⟨_, rfl⟩
  have HZ : Hid (piF n R x y = decide (0 ≤ z)) := by show _ = _; unfold piF; rw [hz]
  generalize piF n R x y = r at *
  generalize distL n R x = L at *
  have HL := Lib.hid hl
  have HZ2 := Lib.hid hz
  obtain ⟨s0, s1, s2, _, _, _, hl2⟩ := hp.cells
  clear hR hp hl hz
  unfold strV at HI
  go_enter Tryz.func27, Tryz.ntmps27
  go_wp2_with fail
  refine (HI.out _).mono ?_; rintro e w1 ⟨v, rfl, ho, hb2⟩
  have HB3 := Lib.hid hb2
  obtain ⟨g, cap, rfl, _, _, hc1, hc2, hc⟩ := ho.cells
  have hcy := hc y (by have := HL.out; omega)
  have hyl : y < L.length := by have := HL.out; omega
  rw [HZ2.out] at hcy
  clear ho hb2 hc s0 s1 s2 hl2
  go_wp2_with fail
  go_ret
  exact ⟨ret_bool (by rw [HZ.out]), HB3.out⟩
set_option maxHeartbeats 1000000 in
theorem PiecesOf_any (n : Nat) (S R : ByteArray) (hv : validB n S R = true) (w : World) :
    Calls Tryz.prog 11 #[strV n S R] w (ListO (clsN (piF n R) n).1 w) := by
  obtain ⟨h1, h8, hS, hR, _, _⟩ := valid_is hv
  have hnn : n * n ≤ 64 := Nat.mul_le_mul h8 h8
  have HIS : Hid (∀ w, Calls Tryz.prog 20 #[strV n S R] w fun e w' => e = .returned (.bool true) ∧ Below w.heap.size w w') := fun w => by
    have := isStructure_any n S R w (by omega) (by rw [hR]; omega)
    rw [hv] at this
    exact this
  have HC1 := Lib.hid (fun x y p w hx hy hp => piecesOf1_any n x y S R p w h8 hR hx hy hp)
  have HCB := Lib.hid (fun kf c f w hkf hf => classesBy_any n h8 kf c f w hkf hf)
  have HP : Hid (SBlk (boxS w n S R) w.heap.size n S R ∧ Below w.heap.size w (boxS w n S R)) := ⟨boxS_SBlk w n S R, boxS_below _ _ _ _⟩
  obtain ⟨W, hW⟩ : ∃ W, boxS w n S R = W := ⟨_, rfl⟩
  rw [hW] at HP
  unfold boxS at hW
  have HW := Lib.hid hW
  clear hW hS hR hv hnn
  unfold strV at HIS
  unfold strV
  go_enter Tryz.func11, Tryz.ntmps11
  go_upto_region 1 with fail
  rw [HW.out]
  obtain ⟨s0, s1, s2, _, _, _, hl⟩ := HP.out.1.cells
  go_wp2_with fail
  refine (HIS.out _).mono ?_; rintro e w1 ⟨rfl, hb⟩
  have HP1 : Hid (SBlk w1 w.heap.size n S R ∧ Below w.heap.size w w1) := ⟨HP.out.1.below hb hl, HP.out.2.trans (hb.mono HP.out.2.size)⟩
  clear hb s0 s1 s2 hl HP HW
  obtain ⟨s0, s1, s2, _, _, _, hl⟩ := HP1.out.1.cells
  go_wp2_with fail
  refine (HCB.out 27 #[.pointer (some ⟨w.heap.size, 0, none⟩)] (piF n R) w1 (fun _ _ => by kernel_rfl) (fun x y W' hx hy hb => HC1.out x y w.heap.size W' hx hy (HP1.out.1.below hb HP1.out.1.cells.2.2.2.2.2.2))).mono ?_
  rintro e w2 ⟨v, rfl, ho, hb⟩
  have HF : Hid (ListO (clsN (piF n R) n).1 w (.returned v) w2) := ⟨v, rfl, ho.monoN HP1.out.2.size, HP1.out.2.trans (hb.mono HP1.out.2.size)⟩
  clear ho hb
  go_wp2_with fail
  go_ret
  exact HF.out
end Go.Proofs.YtfhogenjpepfnaaGreatDoor

namespace Go.Proofs.YtfhogenjpepfnaaGreatDoor
open Go.RowKit
set_option linter.unusedVariables false
set_option maxRecDepth 100000
/-- The structure of the elements L. -/
def partW (n : Nat) (S R : ByteArray) (L : List Nat) : Value := strV L.length (bitsOf (fun x => oneAt S (L.getD x 0)) L.length) (gridOf (fun x y => relAt n R (L.getD x 0) (L.getD y 0)) L.length)
theorem implPart1_9 (n : Nat) (S R : ByteArray) (L : List Nat) (v : Value) (p q x : Nat) (W : World) (hn : n ≤ 8) (hS : S.size = n) (hL : ∀ j, j < L.length → L.getD j 0 < n) (hx : x < L.length) (hp : SBlk W p n S R) (hq : W.cell? ⟨q, 0, none⟩ = some v) (hv : NumsAt W v L) :
    Calls Tryz.prog 78 #[.int .i64 (x : Int), .pointer (some ⟨p, 0, none⟩), .pointer (some ⟨q, 0, none⟩)] W fun e w' => e = .returned (.bool (oneAt S (L.getD x 0))) ∧ Below W.heap.size W w' := by
  obtain ⟨a, cap, rfl, h1, h2, h3⟩ := hv.view
  obtain ⟨g, o, rfl, hg, hc⟩ := h3 (by omega)
  have d1 := hc x hx
  have hy := hL x hx
  obtain ⟨s0, s1, s2, _, _, _, _⟩ := hp.cells
  clear hv h3 hc hL hp
  generalize L.getD x 0 = y at *
  have HC := Lib.hid (fun w => inSet_b n S R y w (by omega) (by omega))
  unfold strV at HC
  unfold maxLen at h2
  have hxI : (x : Int) < (L.length : Int) := by omega
  go_enter Tryz.func78, Tryz.ntmps78
  go_wp2_with fail
  have f0 := fun s => Since.cell s0 s
  have f1 := fun s => Since.cell s1 s
  have f2 := fun s => Since.cell s2 s
  have f3 := fun s => Since.cell hq s
  have f4 := fun s => Since.cell d1 s
  refine wp_region_since (by kernel_rfl) (by kernel_rfl) ?_
  repeat (go_big_quiet_step ((with_reducible exact Since.call (HC.out _))))
  refine wpQuiet_nil ?_
  intro w1 hb1
  go_wp2_with fail
  go_ret
  exact ⟨rfl, hb1⟩
theorem implPart2_9 (n : Nat) (S R : ByteArray) (L : List Nat) (v : Value) (p q x y : Nat) (W : World) (hn : n ≤ 8) (hR : R.size = n * n) (hL : ∀ j, j < L.length → L.getD j 0 < n) (hx : x < L.length) (hy : y < L.length) (hp : SBlk W p n S R) (hq : W.cell? ⟨q, 0, none⟩ = some v) (hv : NumsAt W v L) :
    Calls Tryz.prog 79 #[.int .i64 (x : Int), .int .i64 (y : Int), .pointer (some ⟨p, 0, none⟩), .pointer (some ⟨q, 0, none⟩)] W fun e w' => e = .returned (.bool (relAt n R (L.getD x 0) (L.getD y 0))) ∧ Below W.heap.size W w' := by
  obtain ⟨a, cap, rfl, h1, h2, h3⟩ := hv.view
  obtain ⟨g, o, rfl, hg, hc⟩ := h3 (by omega)
  have d1 := hc x hx
  have d2 := hc y hy
  have hx' := hL x hx
  have hy' := hL y hy
  obtain ⟨s0, s1, s2, _, _, _, _⟩ := hp.cells
  clear hv h3 hc hL hp
  generalize L.getD x 0 = xe at *
  generalize L.getD y 0 = ye at *
  have HC := Lib.hid (fun w => inRel_b n S R xe ye w hx' hy' hn hR)
  unfold strV at HC
  unfold maxLen at h2
  have hxI : (x : Int) < (L.length : Int) := by omega
  have hyI : (y : Int) < (L.length : Int) := by omega
  go_enter Tryz.func79, Tryz.ntmps79
  go_wp2_with fail
  have f0 := fun s => Since.cell s0 s
  have f1 := fun s => Since.cell s1 s
  have f2 := fun s => Since.cell s2 s
  have f3 := fun s => Since.cell hq s
  have f4 := fun s => Since.cell d1 s
  have f5 := fun s => Since.cell d2 s
  refine wp_region_since (by kernel_rfl) (by kernel_rfl) ?_
  repeat (go_big_quiet_step ((with_reducible exact Since.call (HC.out _))))
  refine wpQuiet_nil ?_
  intro w1 hb1
  go_wp2_with fail
  go_ret
  exact ⟨rfl, hb1⟩
theorem implPartOf_9 (n : Nat) (S R : ByteArray) (L : List Nat) (v : Value) (w : World) (hn : n ≤ 8) (hS : S.size = n) (hR : R.size = n * n) (hl : L.length ≤ 8) (hL : ∀ j, j < L.length → L.getD j 0 < n) (hv : NumsAt w v L) :
    Calls Tryz.prog 62 #[strV n S R, v] w fun e w' => e = .returned (partW n S R L) ∧ Below w.heap.size w w' := by
  obtain ⟨a, cap, rfl, h1, h2, h3⟩ := hv.view
  have hm := fun W k1 k2 hk1 hk2 h1 h2 => makeStructure_any L.length hl k1 k2 #[.pointer (some ⟨w.heap.size, 0, none⟩), .pointer (some ⟨w.heap.size + 1, 0, none⟩)] #[.pointer (some ⟨w.heap.size, 0, none⟩), .pointer (some ⟨w.heap.size + 1, 0, none⟩)] (fun x => oneAt S (L.getD x 0)) (fun x y => relAt n R (L.getD x 0) (L.getD y 0)) W hk1 hk2 h1 h2
  have HM := Lib.hid hm; clear hm
  obtain ⟨W, hW⟩ : ∃ W, ((w.alloc (.cells #[.int .i64 (n : Int), .string S, .string R] 26)).alloc (.cells #[.slice a L.length cap] 30)).alloc (.cells #[.int .i64 0, .string ⟨#[]⟩, .string ⟨#[]⟩] 26) = W := ⟨_, rfl⟩
  have HT : Hid (SBlk W w.heap.size n S R ∧ W.cell? ⟨w.heap.size + 1, 0, none⟩ = some (.slice a L.length cap) ∧ SBlk W (w.heap.size + 2) 0 ByteArray.empty ByteArray.empty ∧ Below w.heap.size w W ∧ W.heap.size = w.heap.size + 3) := by
    have b1 := boxS_below w n S R
    have s1 := boxS_size w n S R
    have h1 := boxS_SBlk w n S R
    have hB : Below (boxS w n S R).heap.size (boxS w n S R) (((boxS w n S R).alloc (.cells #[.slice a L.length cap] 30)).alloc (.cells #[.int .i64 0, .string ByteArray.empty, .string ByteArray.empty] 26)) := ((Below.refl _ _).alloc (Nat.le_refl _) _).alloc (by simp) _
    have h3 := SBlk.new ((boxS w n S R).alloc (.cells #[.slice a L.length cap] 30)) 0 ByteArray.empty ByteArray.empty
    have h2 : ((boxS w n S R).alloc (.cells #[.slice a L.length cap] 30)).cell? ⟨(boxS w n S R).heap.size, 0, none⟩ = some (.slice a L.length cap) := by unfold World.cell?; rw [heap_alloc_new]; rfl
    have h2' := (Below.cell ((Below.refl ((boxS w n S R).alloc (.cells #[.slice a L.length cap] 30)).heap.size _).alloc (Nat.le_refl _) (.cells #[.int .i64 0, .string ByteArray.empty, .string ByteArray.empty] 26)) (World.block_lt_of_cell? _ _ h2)).trans h2
    have hW2 : ((boxS w n S R).alloc (.cells #[.slice a L.length cap] 30)).alloc (.cells #[.int .i64 0, .string ByteArray.empty, .string ByteArray.empty] 26) = W := hW
    rw [hW2] at hB h3 h2'
    rw [s1] at h2'
    simp only [World.size_alloc, s1] at h3
    refine ⟨h1.below hB h1.cells.2.2.2.2.2.2, h2', h3, b1.trans (hB.mono b1.size), ?_⟩
    rw [← hW2]
    simp [s1]
  have HV := Lib.hid (hv.below HT.out.2.2.2.1)
  have HW := Lib.hid hW
  clear hv h3 hW
  have HL := Lib.hid hL
  clear hL
  unfold partW
  obtain ⟨TS, hA⟩ : ∃ T, bitsOf (fun x => oneAt S (L.getD x 0)) L.length = T := ⟨_, rfl⟩
  obtain ⟨TR, hG⟩ : ∃ T, gridOf (fun x y => relAt n R (L.getD x 0) (L.getD y 0)) L.length = T := ⟨_, rfl⟩
  rw [hA, hG] at HM ⊢
  clear hA hG
  obtain ⟨s0, s1, s2, _, _, _, _⟩ := HT.out.1.cells
  have q0 := HT.out.2.1
  unfold maxLen at h2
  unfold strV
  go_enter Tryz.func62, Tryz.ntmps62
  go_upto_region 1 with fail
  rw [HW.out]
  go_wp2_with fail
  refine (HM.out _ _ _ (fun _ _ => by kernel_rfl) (fun _ _ => by kernel_rfl) (fun x W' hx hb => implPart1_9 n S R L _ w.heap.size (w.heap.size + 1) x W' hn hS HL.out hx (HT.out.1.below hb HT.out.1.cells.2.2.2.2.2.2) ((hb.cell (World.block_lt_of_cell? _ _ HT.out.2.1)).trans HT.out.2.1) (HV.out.below hb)) (fun x y W' hx hy hb => implPart2_9 n S R L _ w.heap.size (w.heap.size + 1) x y W' hn hR HL.out hx hy (HT.out.1.below hb HT.out.1.cells.2.2.2.2.2.2) ((hb.cell (World.block_lt_of_cell? _ _ HT.out.2.1)).trans HT.out.2.1) (HV.out.below hb))).mono ?_
  rintro e w1 ⟨rfl, hb⟩
  have HB1 := Lib.hid (HT.out.2.2.2.1.trans (hb.mono HT.out.2.2.2.1.size))
  have HR1 := Lib.hid (HT.out.2.2.1.below hb HT.out.2.2.1.cells.2.2.2.2.2.2)
  clear hb s0 s1 s2 q0
  obtain ⟨d0, d1, d2, g0, g1, g2, hl'⟩ := HR1.out.cells
  unfold strV
  go_wp2_with fail
  refine bodyPost_ret (v := strV L.length TS TR) ?_ rfl ⟨rfl, ?_⟩
  · exact results_str rfl rfl HR1.out.set3
  · exact ((HB1.out.setCell (by simp; omega) _).setCell (by simp; omega) _).setCell (by simp; omega) _
end Go.Proofs.YtfhogenjpepfnaaGreatDoor
