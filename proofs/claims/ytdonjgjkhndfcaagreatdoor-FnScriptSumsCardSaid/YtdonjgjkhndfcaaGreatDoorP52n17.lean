/- Contracts of the program's functions and what they compute: part 17. Conditions: those that each theorem states. -/
import Derived.Test.YtdonjgjkhndfcaaGreatDoorP52n10
import Derived.Test.YtdonjgjkhndfcaaGreatDoorP52n14
import Derived.Test.YtdonjgjkhndfcaaGreatDoorP52n16
import Derived.Test.YtdonjgjkhndfcaaGreatDoorP52n12
namespace Go.Proofs.YtdonjgjkhndfcaaGreatDoor
open Go.RowKit
set_option linter.unusedVariables false
set_option maxRecDepth 100000
/-- The first of the numbers up to x that is alike. -/
def fstAl (f : Nat → Nat → Bool) (x : Nat) : Nat → Option Nat
  | 0 => none
  | y + 1 => match fstAl f x y with
    | some z => some z
    | none => if f y x then some y else none
/-- The numbers of classes of the first n things, and how many classes there are. -/
def clsN (f : Nat → Nat → Bool) : Nat → List Nat × Nat
  | 0 => ([], 0)
  | x + 1 => match fstAl f x x with
    | some y => ((clsN f x).1 ++ [(clsN f x).1.getD y 0], (clsN f x).2)
    | none => ((clsN f x).1 ++ [(clsN f x).2], (clsN f x).2 + 1)
theorem fstAl_lt {f : Nat → Nat → Bool} {x : Nat} : ∀ {k y : Nat}, fstAl f x k = some y → y < k ∧ f y x = true
  | 0, y, h => by cases h
  | k + 1, y, h => by
    unfold fstAl at h
    cases he : fstAl f x k with
    | some z =>
      rw [he] at h
      injection h with h
      subst h
      have := fstAl_lt he
      exact ⟨by omega, this.2⟩
    | none =>
      rw [he] at h
      by_cases hf : f k x = true
      · simp only [hf, if_true] at h
        injection h with h
        subst h
        exact ⟨by omega, hf⟩
      · simp only [hf] at h
        cases h
theorem fstAl_no {f : Nat → Nat → Bool} {x k : Nat} (h : fstAl f x k = none) (hf : f k x = false) : fstAl f x (k + 1) = none := by
  unfold fstAl
  rw [h]
  simp [hf]
theorem fstAl_yes {f : Nat → Nat → Bool} {x k : Nat} (h : fstAl f x k = none) (hf : f k x = true) : ∀ {m : Nat}, k < m → fstAl f x m = some k
  | 0, hm => by omega
  | m + 1, hm => by
    unfold fstAl
    by_cases e : k = m
    · subst e
      rw [h]
      simp [hf]
    · rw [fstAl_yes h hf (m := m) (by omega)]
theorem clsN_len (f : Nat → Nat → Bool) : ∀ n, (clsN f n).1.length = n ∧ (clsN f n).2 ≤ n ∧ ∀ z ∈ (clsN f n).1, z < (clsN f n).2
  | 0 => ⟨rfl, Nat.le_refl _, by intro z hz; cases hz⟩
  | n + 1 => by
    obtain ⟨h1, h2, h3⟩ := clsN_len f n
    unfold clsN
    cases he : fstAl f n n with
    | some y =>
      refine ⟨by simp [h1], by show (clsN f n).2 ≤ n + 1; omega, fun z hz => ?_⟩
      rcases List.mem_append.1 hz with hz | hz
      · exact h3 z hz
      · rw [List.mem_singleton.1 hz]
        have := (fstAl_lt he).1
        rw [List.getD_eq_getElem?_getD, List.getElem?_eq_getElem (by omega)]
        exact h3 _ (List.getElem_mem _)
    | none =>
      refine ⟨by simp [h1], by show (clsN f n).2 + 1 ≤ n + 1; omega, fun z hz => ?_⟩
      show z < (clsN f n).2 + 1
      rcases List.mem_append.1 hz with hz | hz
      · have := h3 z hz; omega
      · rw [List.mem_singleton.1 hz]; omega
/-- What classesBy keeps. -/
structure Cl (w : World) (v : Value) (L : List Nat) (wr : World) : Prop where
  own : Own w.heap.size wr v L
  old : Below w.heap.size w wr
theorem Cl.below {w wr w' : World} {v : Value} {L : List Nat} (h : Cl w v L wr) (hb : Below wr.heap.size wr w') : Cl w v L w' := ⟨h.own.below hb, h.old.trans (hb.mono h.old.size)⟩
theorem Cl.push {w wr w' : World} {v v' : Value} {L L' : List Nat} (h : Cl w v L wr) (ho : Own w.heap.size w' v' L') (hg : wr.grownBy w' v.ownBlock) : Cl w v' L' w' :=
  ⟨ho, h.old.grown hg h.old.size (fun k hk => (h.own.own.lt k hk).1)⟩
set_option maxHeartbeats 1000000 in
theorem classesBy_any (n : Nat) (hn : n ≤ 8) (k : FuncId) (c : Array Value) (f : Nat → Nat → Bool) (w : World)
    (hk : ∀ (args : Array Value) (W : World), (callFunc k args).run Tryz.prog W = .ok (.enter k args) W)
    (hf : ∀ x y W, x < n → y < n → Below w.heap.size w W → Calls Tryz.prog k (#[.int .i64 (x : Int), .int .i64 (y : Int)] ++ c) W fun e w' => e = .returned (.bool (f x y)) ∧ Below W.heap.size W w') :
    Calls Tryz.prog 32 #[.int .i64 (n : Int), .func (.func k) #[] c] w (ListO (clsN f n).1 w) := by
  have HF := Lib.hid hf
  have HP0 : Hid (Cl w (.slice (some ⟨w.heap.size, 0, none⟩) 0 0) (clsN f 0).1 (w.alloc (.cells #[] 3))) := ⟨Own.lit0 _ _ (Nat.le_refl _), (Below.refl _ _).alloc (Nat.le_refl _) _⟩
  clear hf
  go_enter Tryz.func32, Tryz.ntmps32
  go_wp2_with fail
  go_loopw [12, 5, 6, 7, 8, 9] (fun q o nx _ _ _ wr => ∃ x : Nat, x ≤ n ∧ q = .int .i64 (x : Int) ∧ nx = .int .i64 ((clsN f x).2 : Int) ∧ Hid (Cl w o (clsN f x).1 wr)) (fun q _ _ _ _ _ _ => n - (intOf q).toNat)
  case atStart => exact ⟨0, by omega, rfl, rfl, HP0⟩
  case round =>
    clear HP0
    obtain ⟨x, hx, rfl, rfl, HP⟩ := hrel
    by_cases hlt : x < n
    · have hxI : (x : Int) < (n : Int) := by omega
      obtain ⟨hc1, hc2, hc3⟩ := clsN_len f x
      have HC3 := Lib.hid hc3
      have HYES : Hid (∀ y, fstAl f x x = some y → (clsN f (x + 1)).1 = (clsN f x).1 ++ [(clsN f x).1.getD y 0] ∧ (clsN f (x + 1)).2 = (clsN f x).2) := fun y hy => by
        rw [clsN, hy]; exact ⟨rfl, rfl⟩
      have HNO : Hid (fstAl f x x = none → (clsN f (x + 1)).1 = (clsN f x).1 ++ [(clsN f x).2] ∧ (clsN f (x + 1)).2 = (clsN f x).2 + 1) := fun hy => by
        rw [clsN, hy]; exact ⟨rfl, rfl⟩
      obtain ⟨L, hL⟩ : ∃ L, (clsN f x).1 = L := ⟨_, rfl⟩
      obtain ⟨nx, hnx⟩ : ∃ L, (clsN f x).2 = L := ⟨_, rfl⟩
      rw [hL] at HP HYES HNO HC3 hc1
      rw [hnx] at HYES HNO HC3 hc2 ⊢
      have HLL : Hid (L.length ≤ 2000000) := by show _ ≤ _; omega
      clear hc3 hL hnx
      have HLE := Lib.hid hc1
      clear hc1
      go_wp2_with fail
      obtain ⟨wo, hwo⟩ : ∃ wo, wo = wr := ⟨_, rfl⟩
      subst hwo
      go_loopw [16, 8, 9] (fun q cl _ wr => ∃ y : Nat, y ≤ x ∧ q = .int .i64 (y : Int) ∧ cl = .int .i64 (-1) ∧ Hid (fstAl f x y = none) ∧ Hid (Cl w u5 L wr)) (fun q _ _ _ => x - (intOf q).toNat)
      case atStart => exact ⟨0, by omega, rfl, rfl, rfl, HP⟩
      case round =>
        clear HP
        obtain ⟨y, hy, rfl, rfl, HN, HP⟩ := hrel
        by_cases hlt2 : y < x
        · have hyI : (y : Int) < (x : Int) := by omega
          have HC := Lib.hid (HF.out y x wr (by omega) hlt HP.out.old)
          have HFN : Hid (f y x = false → fstAl f x (y + 1) = none) := fun h => fstAl_no HN.out h
          have HFY : Hid (f y x = true → fstAl f x x = some y) := fun h => fstAl_yes HN.out h hlt2
          generalize f y x = r at *
          go_wp2_with fail
          refine HC.out.mono ?_; rintro e w1 ⟨rfl, hb1⟩
          have HP1 := Lib.hid (HP.out.below hb1)
          clear hb1 HC
          cases r
          · have HN2 := Lib.hid (HFN.out rfl)
            go_wp2_with fail
            go_roundw
            case rel => exact ⟨y + 1, by omega, by go_num, rfl, HN2, HP1⟩
            case measure => simp [intOf]; omega
          · obtain ⟨hy1, hy2⟩ := HYES.out y (HFY.out rfl)
            have HY1 := Lib.hid hy1
            have HY2 := Lib.hid hy2
            obtain ⟨z, hz⟩ : ∃ z, L.getD y 0 = z := ⟨_, rfl⟩
            rw [hz] at HY1
            have hzb : z < nx := HC3.out z (by rw [← hz, List.getD_eq_getElem?_getD, List.getElem?_eq_getElem (by have := HLE.out; omega)]; exact List.getElem_mem _)
            obtain ⟨g, cap, hu, h1, h2, h3, h4, h5⟩ := HP1.out.own.cells
            have d1 := h5 y (by have := HLE.out; omega)
            rw [hz] at d1
            have HU := Lib.hid hu
            have hyL : y < L.length := by have := HLE.out; omega
            have hxL : ¬ ((z : Int) < 0) := by omega
            clear h5 hy1 hy2 hz
            have HP2 : Hid (Cl w (.slice (some ⟨g, 0, none⟩) L.length cap) L w1) := by rw [← HU.out]; exact HP1.out
            subst hu
            have hzB : decide ((z : Int) < 0) = false := decide_eq_false hxL
            go_wp2_with (first | (at_builtin; refine wpList_own1 HP2.out.own HLL.out rfl (.tmp 33) (.tmp 35) rfl z _ rfl rfl rfl ?_; intro v' w' ho hg; have HP9 := Lib.hid (HP2.out.push ho hg); clear ho hg) | fail)
            go_roundw
            case rel => exact ⟨x + 1, by omega, by go_num, by rw [HY2.out], by rw [HY1.out]; exact HP9⟩
            case measure => simp [intOf]; omega
        · obtain rfl : y = x := by omega
          obtain ⟨hy1, hy2⟩ := HNO.out HN.out
          have HY1 := Lib.hid hy1
          have HY2 := Lib.hid hy2
          clear hy1 hy2
          go_wp2_with (first | (at_builtin; refine wpList_own1 HP.out.own HLL.out rfl (.tmp 33) (.tmp 35) rfl nx _ rfl rfl rfl ?_; intro v' w' ho hg; have HP9 := Lib.hid (HP.out.push ho hg); clear ho hg) | fail)
          go_roundw
          case rel => exact ⟨y + 1, by omega, by go_num, by rw [HY2.out]; go_num, by rw [HY1.out]; exact HP9⟩
          case measure => simp [intOf]; omega
    · obtain rfl : x = n := by omega
      have HF : Hid (ListO (clsN f x).1 w (.returned u5) wr) := ⟨_, rfl, HP.out.own, HP.out.old⟩
      go_wp2_with fail
      go_ret
      exact HF.out
end Go.Proofs.YtdonjgjkhndfcaaGreatDoor

namespace Go.Proofs.YtdonjgjkhndfcaaGreatDoor
open Go.RowKit
set_option linter.unusedVariables false
set_option maxRecDepth 100000
theorem bfsIn_len : ∀ (L : List Nat) (d : List Int) (q : List Nat) (v : Nat), (bfsIn d q v L).1.length = d.length
  | [], d, q, v => rfl
  | y :: ys, d, q, v => by
    unfold bfsIn
    split
    · rw [bfsIn_len ys, List.length_set]
    · exact bfsIn_len ys d q v
theorem bfs_len (nb : Nat → List Nat) : ∀ (f : Nat) (d : List Int) (q : List Nat), (bfs nb f d q).length = d.length
  | 0, d, q => rfl
  | f + 1, d, [] => rfl
  | f + 1, d, v :: q => by
    unfold bfs
    rw [bfs_len nb f, bfsIn_len]
theorem distL_len (n : Nat) (R : ByteArray) (x : Nat) : (distL n R x).length = n := by
  unfold distL
  rw [bfs_len]
  simp
/-- Whether one element is connected with another. -/
def piF (n : Nat) (R : ByteArray) (x y : Nat) : Bool := decide (0 ≤ (distL n R x).getD y 0)
set_option maxHeartbeats 1000000 in
theorem piecesOf1_any (n x y : Nat) (S R : ByteArray) (p : Nat) (w : World) (hn : n ≤ 8) (hR : R.size = n * n) (hx : x < n) (hy : y < n) (hp : SBlk w p n S R) :
    Calls Tryz.prog 33 #[.int .i64 (x : Int), .int .i64 (y : Int), .pointer (some ⟨p, 0, none⟩)] w fun e w' => e = .returned (.bool (piF n R x y)) ∧ Below w.heap.size w w' := by
  have HI := Lib.hid (fun w => distancesFrom_any n S R x hn hR hx w)
  have hl : (distL n R x).length = n := distL_len n R x
  obtain ⟨z, hz⟩ : ∃ z, (distL n R x).getD y 0 = z := ⟨_, rfl⟩
  have HZ : Hid (piF n R x y = decide (0 ≤ z)) := by show _ = _; unfold piF; rw [hz]
  generalize piF n R x y = r at *
  generalize distL n R x = L at *
  have HL := Lib.hid hl
  have HZ2 := Lib.hid hz
  obtain ⟨s0, s1, s2, _, _, _, hl2⟩ := hp.cells
  clear hR hp hl hz
  unfold strV at HI
  go_enter Tryz.func33, Tryz.ntmps33
  go_wp2_with fail
  refine (HI.out _).mono ?_; rintro e w1 ⟨v, rfl, ho, hb2⟩
  have HB3 := Lib.hid hb2
  obtain ⟨g, cap, rfl, _, _, hc1, hc2, hc⟩ := ho.cells
  have hcy := hc y (by have := HL.out; omega)
  have hyl : y < L.length := by have := HL.out; omega
  rw [HZ2.out] at hcy
  clear ho hb2 hc s0 s1 s2 hl2
  go_wp2_with fail
  go_ret
  exact ⟨ret_bool (by rw [HZ.out]), HB3.out⟩
set_option maxHeartbeats 1000000 in
theorem PiecesOf_any (n : Nat) (S R : ByteArray) (hv : validB n S R = true) (w : World) :
    Calls Tryz.prog 12 #[strV n S R] w (ListO (clsN (piF n R) n).1 w) := by
  obtain ⟨h1, h8, hS, hR, _, _⟩ := valid_is hv
  have hnn : n * n ≤ 64 := Nat.mul_le_mul h8 h8
  have HIS : Hid (∀ w, Calls Tryz.prog 22 #[strV n S R] w fun e w' => e = .returned (.bool true) ∧ Below w.heap.size w w') := fun w => by
    have := isStructure_any n S R w (by omega) (by rw [hR]; omega)
    rw [hv] at this
    exact this
  have HC1 := Lib.hid (fun x y p w hx hy hp => piecesOf1_any n x y S R p w h8 hR hx hy hp)
  have HCB := Lib.hid (fun kf c f w hkf hf => classesBy_any n h8 kf c f w hkf hf)
  have HP : Hid (SBlk (boxS w n S R) w.heap.size n S R ∧ Below w.heap.size w (boxS w n S R)) := ⟨boxS_SBlk w n S R, boxS_below _ _ _ _⟩
  obtain ⟨W, hW⟩ : ∃ W, boxS w n S R = W := ⟨_, rfl⟩
  rw [hW] at HP
  unfold boxS at hW
  have HW := Lib.hid hW
  clear hW hS hR hv hnn
  unfold strV at HIS
  unfold strV
  go_enter Tryz.func12, Tryz.ntmps12
  go_upto_region 1 with fail
  rw [HW.out]
  obtain ⟨s0, s1, s2, _, _, _, hl⟩ := HP.out.1.cells
  go_wp2_with fail
  refine (HIS.out _).mono ?_; rintro e w1 ⟨rfl, hb⟩
  have HP1 : Hid (SBlk w1 w.heap.size n S R ∧ Below w.heap.size w w1) := ⟨HP.out.1.below hb hl, HP.out.2.trans (hb.mono HP.out.2.size)⟩
  clear hb s0 s1 s2 hl HP HW
  obtain ⟨s0, s1, s2, _, _, _, hl⟩ := HP1.out.1.cells
  go_wp2_with fail
  refine (HCB.out 33 #[.pointer (some ⟨w.heap.size, 0, none⟩)] (piF n R) w1 (fun _ _ => by kernel_rfl) (fun x y W' hx hy hb => HC1.out x y w.heap.size W' hx hy (HP1.out.1.below hb HP1.out.1.cells.2.2.2.2.2.2))).mono ?_
  rintro e w2 ⟨v, rfl, ho, hb⟩
  have HF : Hid (ListO (clsN (piF n R) n).1 w (.returned v) w2) := ⟨v, rfl, ho.monoN HP1.out.2.size, HP1.out.2.trans (hb.mono HP1.out.2.size)⟩
  clear ho hb
  go_wp2_with fail
  go_ret
  exact HF.out
end Go.Proofs.YtdonjgjkhndfcaaGreatDoor

namespace Go.Proofs.YtdonjgjkhndfcaaGreatDoor
open Go.RowKit
set_option linter.unusedVariables false
set_option maxRecDepth 100000
/-- The first order that turns one structure into another. -/
def shHd (n : Nat) (S R : ByteArray) (m : Nat) (S2 R2 : ByteArray) : List Nat := (Gs.shapes (stOf n S R) (stOf m S2 R2)).headD []
theorem ret_svr {v : Value} {x y : Bool} (h : x = y) : Ending.returned (.tuple #[v, .bool x]) = .returned (.tuple #[v, .bool y]) := by rw [h]
set_option maxHeartbeats 2000000 in
theorem SameShape_list (n : Nat) (S R : ByteArray) (m : Nat) (S2 R2 : ByteArray) (hv : validB n S R = true) (hv2 : validB m S2 R2 = true) (w : World) :
    Calls Tryz.prog 15 #[strV n S R, strV m S2 R2] w fun e w' => ∃ v, e = .returned (.tuple #[v, .bool (ssB n S R m S2 R2)]) ∧ (ssB n S R m S2 R2 = true → NumsAt w' v (shHd n S R m S2 R2)) ∧ Below w.heap.size w w' := by
  obtain ⟨h1, h8, hSS, hRR, _, _⟩ := valid_is hv
  obtain ⟨m1, m8, hSS2, hRR2, _, _⟩ := valid_is hv2
  have hnn : n * n ≤ 64 := Nat.mul_le_mul h8 h8
  have hmm : m * m ≤ 64 := Nat.mul_le_mul m8 m8
  have HIS := Lib.hid (fun w => isStructure_any n S R w (by omega) (by omega))
  have HIS2 := Lib.hid (fun w => isStructure_any m S2 R2 w (by omega) (by omega))
  have HB := Lib.hid (Bx2.new w n S R m S2 R2)
  unfold boxS at HB
  obtain ⟨RES, hres⟩ : ∃ z, ssB n S R m S2 R2 = z := ⟨_, rfl⟩
  rw [hres]
  obtain ⟨s0, s1, s2, _, _, _, hl⟩ := HB.out.a.cells
  obtain ⟨t0, t1, t2, _, _, _, hl'⟩ := HB.out.b.cells
  obtain ⟨W, hW⟩ : ∃ W, (w.alloc (.cells #[.int .i64 n, .string S, .string R] 24)).alloc (.cells #[.int .i64 m, .string S2, .string R2] 24) = W := ⟨_, rfl⟩
  rw [hW] at HB s0 s1 s2 hl t0 t1 t2 hl'
  have HW := Lib.hid hW
  clear hW
  rw [hv] at HIS
  rw [hv2] at HIS2
  unfold strV at HIS HIS2
  by_cases hnm : n = m
  · subst hnm
    have HE : Hid (RES = !(Gs.shapes (stOf n S R) (stOf n S2 R2)).isEmpty) := by show _ = _; rw [← hres]; unfold ssB; rw [hv, hv2]; simp
    have HH : Hid (shHd n S R n S2 R2 = (Gs.shapes (stOf n S R) (stOf n S2 R2)).headD []) := rfl
    generalize shHd n S R n S2 R2 = HL at *
    have HES := Lib.hid (fun w0 kt caps T J tl hj => eachShape_any w0 n S R S2 R2 kt caps false T J h8 hSS hRR hSS2 hRR2 tl hj)
    unfold strV at HES
    clear hv hv2 hres hSS hRR hSS2 hRR2 hnn hmm m1 m8
    unfold strV
    go_enter Tryz.func15, Tryz.ntmps15
    go_upto_region 1 with fail
    rw [HW.out]
    go_wp2_with fail
    refine (HIS.out _).mono ?_; rintro e w1 ⟨rfl, hb1⟩
    have HB1 := Lib.hid (HB.out.below hb1)
    clear hb1 s0 s1 s2 hl t0 t1 t2 hl'
    obtain ⟨t0, t1, t2, _, _, _, hl'⟩ := HB1.out.b.cells
    go_wp2_with fail
    refine (HIS2.out _).mono ?_; rintro e w2 ⟨rfl, hb2⟩
    have HB2 := Lib.hid (HB1.out.below hb2)
    clear hb2 t0 t1 t2 hl'
    obtain ⟨s0, s1, s2, _, _, _, hl⟩ := HB2.out.a.cells
    obtain ⟨t0, t1, t2, _, _, _, hl'⟩ := HB2.out.b.cells
    have hal : Below w2.heap.size w2 (w2.alloc (.cells #[.slice none 0 0] 29)) := (Below.refl _ _).alloc (Nat.le_refl _) _
    have HB3 := Lib.hid (HB2.out.below hal)
    have HJ : Hid (FoundJ w2.heap.size [] (w2.alloc (.cells #[.slice none 0 0] 29))) := .inl ⟨rfl, heap_alloc_new _ _⟩
    have HCC := Lib.hid (HES.out (w2.alloc (.cells #[.slice none 0 0] 29)) _ _ _ _ (found_teller _ _ w2.heap.size (by simp)) HJ.out)
    have HZ : Hid (w.heap.size ≤ w2.heap.size) := HB2.out.old.size
    clear hal HJ HES
    go_upto_region 4 with fail
    obtain ⟨u0, u1, u2, _, _, _, hm⟩ := HB3.out.a.cells
    obtain ⟨x0, x1, x2, _, _, _, hm'⟩ := HB3.out.b.cells
    go_wp2_with fail
    refine HCC.out.mono ?_; rintro e w3 ⟨⟨v, rfl⟩, hj, hoff⟩
    have HB4 : Hid (Below w.heap.size w w3) := HB3.out.old.trans (hoff.below HB3.out.old.size (fun b hb => by rw [hb]; exact HZ.out))
    obtain ⟨ls, hls⟩ : ∃ l, Gs.shapes (stOf n S R) (stOf n S2 R2) = l := ⟨_, rfl⟩
    rw [hls] at HE HH hj
    clear hoff hls s0 s1 s2 hl t0 t1 t2 hl' u0 u1 u2 hm x0 x1 x2 hm'
    rcases hj with ⟨h0, hc⟩ | ⟨o, g, cap, h0, hc, hno⟩
    · have hl0 : ls = [] := by
        cases ls with
        | nil => rfl
        | cons a b => cases h0
      have HRF : Hid (RES = false) := by show _ = _; rw [HE.out, hl0]; rfl
      obtain ⟨c0, _, _⟩ := cell_of hc
      clear h0 hl0 hc HE HH
      go_wp2_with fail
      go_region
      all_goals
        go_wp2_with fail
        go_ret2
        exact ⟨.slice none 0 0, ret_svr HRF.out.symm, fun h => by rw [HRF.out] at h; (cases h), HB4.out.drew⟩
    · have HRF : Hid (RES = true ∧ HL = o) := by
        refine ⟨?_, ?_⟩
        · rw [HE.out]
          cases ls with
          | nil => cases h0
          | cons a b => rfl
        · rw [HH.out]
          cases ls with
          | nil => cases h0
          | cons a b =>
            injection h0
      obtain ⟨c0, _, _⟩ := cell_of hc
      have HNO := Lib.hid (hno.below (Below.refl _ _).drew)
      clear h0 hc HE HH hno
      go_wp2_with fail
      go_region
      all_goals
        go_wp2_with fail
        go_ret2
        exact ⟨.slice (some ⟨g, 0, none⟩) o.length cap, ret_svr HRF.out.1.symm, fun _ => by rw [HRF.out.2]; exact HNO.out, HB4.out.drew⟩
  · have HE : Hid (RES = false) := by show _ = _; rw [← hres]; unfold ssB; rw [hv, hv2]; simp; intro h; exact absurd h (by omega)
    have hnB : ((n : Int) != (m : Int)) = true := by simp; omega
    clear hv hv2 hres
    unfold strV
    go_enter Tryz.func15, Tryz.ntmps15
    go_upto_region 1 with fail
    rw [HW.out]
    go_wp2_with fail
    refine (HIS.out _).mono ?_; rintro e w1 ⟨rfl, hb1⟩
    have HB1 := Lib.hid (HB.out.below hb1)
    clear hb1 s0 s1 s2 hl t0 t1 t2 hl'
    obtain ⟨t0, t1, t2, _, _, _, hl'⟩ := HB1.out.b.cells
    go_wp2_with fail
    refine (HIS2.out _).mono ?_; rintro e w2 ⟨rfl, hb2⟩
    have HB2 := Lib.hid (HB1.out.below hb2)
    clear hb2 t0 t1 t2 hl'
    obtain ⟨s0, s1, s2, _, _, _, hl⟩ := HB2.out.a.cells
    obtain ⟨t0, t1, t2, _, _, _, hl'⟩ := HB2.out.b.cells
    go_wp2_with fail
    go_ret2
    exact ⟨.slice none 0 0, ret_svr HE.out.symm, fun h => by rw [HE.out] at h; (cases h), HB2.out.old⟩
end Go.Proofs.YtdonjgjkhndfcaaGreatDoor
