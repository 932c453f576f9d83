/- Contracts of the program's functions and what they compute: part 29. Conditions: those that each theorem states. -/
import Derived.Test.YtfhogenjpepfnaaGreatDoorP51n5
import Derived.Test.YtfhogenjpepfnaaGreatDoorP51n24
namespace Go.Proofs.YtfhogenjpepfnaaGreatDoor
open Go.RowKit
set_option linter.unusedVariables false
set_option maxRecDepth 100000
/-- The first of the numbers up to x that is alike. -/
def fstAl (f : Nat → Nat → Bool) (x : Nat) : Nat → Option Nat
  | 0 => none
  | y + 1 => match fstAl f x y with
    | some z => some z
    | none => if f y x then some y else none
/-- The numbers of classes of the first n things, and how many classes there are. -/
def clsN (f : Nat → Nat → Bool) : Nat → List Nat × Nat
  | 0 => ([], 0)
  | x + 1 => match fstAl f x x with
    | some y => ((clsN f x).1 ++ [(clsN f x).1.getD y 0], (clsN f x).2)
    | none => ((clsN f x).1 ++ [(clsN f x).2], (clsN f x).2 + 1)
theorem fstAl_lt {f : Nat → Nat → Bool} {x : Nat} : ∀ {k y : Nat}, fstAl f x k = some y → y < k ∧ f y x = true
  | 0, y, h => by cases h
  | k + 1, y, h => by
    unfold fstAl at h
    cases he : fstAl f x k with
    | some z =>
      rw [he] at h
      injection h with h
      subst h
      have := fstAl_lt he
      exact ⟨by omega, this.2⟩
    | none =>
      rw [he] at h
      by_cases hf : f k x = true
      · simp only [hf, if_true] at h
        injection h with h
        subst h
        exact ⟨by omega, hf⟩
      · simp only [hf] at h
        cases h
theorem fstAl_no {f : Nat → Nat → Bool} {x k : Nat} (h : fstAl f x k = none) (hf : f k x = false) : fstAl f x (k + 1) = none := by
  unfold fstAl
  rw [h]
  simp [hf]
theorem fstAl_yes {f : Nat → Nat → Bool} {x k : Nat} (h : fstAl f x k = none) (hf : f k x = true) : ∀ {m : Nat}, k < m → fstAl f x m = some k
  | 0, hm => by omega
  | m + 1, hm => by
    unfold fstAl
    by_cases e : k = m
    · subst e
      rw [h]
      simp [hf]
    · rw [fstAl_yes h hf (m := m) (by omega)]
theorem clsN_len (f : Nat → Nat → Bool) : ∀ n, (clsN f n).1.length = n ∧ (clsN f n).2 ≤ n ∧ ∀ z ∈ (clsN f n).1, z < (clsN f n).2
  | 0 => ⟨rfl, Nat.le_refl _, by intro z hz; cases hz⟩
  | n + 1 => by
    obtain ⟨h1, h2, h3⟩ := clsN_len f n
    unfold clsN
    cases he : fstAl f n n with
    | some y =>
      refine ⟨by simp [h1], by show (clsN f n).2 ≤ n + 1; omega, fun z hz => ?_⟩
      rcases List.mem_append.1 hz with hz | hz
      · exact h3 z hz
      · rw [List.mem_singleton.1 hz]
        have := (fstAl_lt he).1
        rw [List.getD_eq_getElem?_getD, List.getElem?_eq_getElem (by omega)]
        exact h3 _ (List.getElem_mem _)
    | none =>
      refine ⟨by simp [h1], by show (clsN f n).2 + 1 ≤ n + 1; omega, fun z hz => ?_⟩
      show z < (clsN f n).2 + 1
      rcases List.mem_append.1 hz with hz | hz
      · have := h3 z hz; omega
      · rw [List.mem_singleton.1 hz]; omega
/-- What classesBy keeps. -/
structure Cl (w : World) (v : Value) (L : List Nat) (wr : World) : Prop where
  own : Own w.heap.size wr v L
  old : Below w.heap.size w wr
theorem Cl.below {w wr w' : World} {v : Value} {L : List Nat} (h : Cl w v L wr) (hb : Below wr.heap.size wr w') : Cl w v L w' := ⟨h.own.below hb, h.old.trans (hb.mono h.old.size)⟩
theorem Cl.push {w wr w' : World} {v v' : Value} {L L' : List Nat} (h : Cl w v L wr) (ho : Own w.heap.size w' v' L') (hg : wr.grownBy w' v.ownBlock) : Cl w v' L' w' :=
  ⟨ho, h.old.grown hg h.old.size (fun k hk => (h.own.own.lt k hk).1)⟩
set_option maxHeartbeats 1000000 in
theorem classesBy_any (n : Nat) (hn : n ≤ 8) (k : FuncId) (c : Array Value) (f : Nat → Nat → Bool) (w : World)
    (hk : ∀ (args : Array Value) (W : World), (callFunc k args).run Tryz.prog W = .ok (.enter k args) W)
    (hf : ∀ x y W, x < n → y < n → Below w.heap.size w W → Calls Tryz.prog k (#[.int .i64 (x : Int), .int .i64 (y : Int)] ++ c) W fun e w' => e = .returned (.bool (f x y)) ∧ Below W.heap.size W w') :
    Calls Tryz.prog 26 #[.int .i64 (n : Int), .func (.func k) #[] c] w (ListO (clsN f n).1 w) := by
  have HF := Lib.hid hf
  have HP0 : Hid (Cl w (.slice (some ⟨w.heap.size, 0, none⟩) 0 0) (clsN f 0).1 (w.alloc (.cells #[] 3))) := ⟨Own.lit0 _ _ (Nat.le_refl _), (Below.refl _ _).alloc (Nat.le_refl _) _⟩
  clear hf
  go_enter Tryz.func26, Tryz.ntmps26
  go_wp2_with fail
  go_loopw [12, 5, 6, 7, 8, 9] (fun q o nx _ _ _ wr => ∃ x : Nat, x ≤ n ∧ q = .int .i64 (x : Int) ∧ nx = .int .i64 ((clsN f x).2 : Int) ∧ Hid (Cl w o (clsN f x).1 wr)) (fun q _ _ _ _ _ _ => n - (intOf q).toNat)
  case atStart => exact ⟨0, by omega, rfl, rfl, HP0⟩
  case round =>
    clear HP0
    obtain ⟨x, hx, rfl, rfl, HP⟩ := hrel
    by_cases hlt : x < n
    · have hxI : (x : Int) < (n : Int) := by omega
      obtain ⟨hc1, hc2, hc3⟩ := clsN_len f x
      have HC3 := Lib.hid hc3
      have HYES : Hid (∀ y, fstAl f x x = some y → (clsN f (x + 1)).1 = (clsN f x).1 ++ [(clsN f x).1.getD y 0] ∧ (clsN f (x + 1)).2 = (clsN f x).2) := fun y hy => by
        rw [clsN, hy]; exact ⟨rfl, rfl⟩
      have HNO : Hid (fstAl f x x = none → (clsN f (x + 1)).1 = (clsN f x).1 ++ [(clsN f x).2] ∧ (clsN f (x + 1)).2 = (clsN f x).2 + 1) := fun hy => by
        rw [clsN, hy]; exact ⟨rfl, rfl⟩
      obtain ⟨L, hL⟩ : ∃ L, (clsN f x).1 = L := ⟨_, rfl⟩
      obtain ⟨nx, hnx⟩ : ∃ L, (clsN f x).2 = L := ⟨_, rfl⟩
      rw [hL] at HP HYES HNO HC3 hc1
      rw [hnx] at HYES HNO HC3 hc2 ⊢
      have HLL : Hid (L.length ≤ 2000000) := by show _ ≤ _; omega
      clear hc3 hL hnx
      have HLE := Lib.hid hc1
      clear hc1
      go_wp2_with fail
      obtain ⟨wo, hwo⟩ : ∃ wo, wo = wr := ⟨_, rfl⟩
      subst hwo
      go_loopw [16, 8, 9] (fun q cl _ wr => ∃ y : Nat, y ≤ x ∧ q = .int .i64 (y : Int) ∧ cl = .int .i64 (-1) ∧ Hid (fstAl f x y = none) ∧ Hid (Cl w u5 L wr)) (fun q _ _ _ => x - (intOf q).toNat)
      case atStart => exact ⟨0, by omega, rfl, rfl, rfl, HP⟩
      case round =>
        clear HP
        obtain ⟨y, hy, rfl, rfl, HN, HP⟩ := hrel
        by_cases hlt2 : y < x
        · have hyI : (y : Int) < (x : Int) := by omega
          have HC := Lib.hid (HF.out y x wr (by omega) hlt HP.out.old)
          have HFN : Hid (f y x = false → fstAl f x (y + 1) = none) := fun h => fstAl_no HN.out h
          have HFY : Hid (f y x = true → fstAl f x x = some y) := fun h => fstAl_yes HN.out h hlt2
          generalize f y x = r at *
          go_wp2_with fail
          refine HC.out.mono ?_; rintro e w1 ⟨rfl, hb1⟩
          have HP1 := Lib.hid (HP.out.below hb1)
          clear hb1 HC
          cases r
          · have HN2 := Lib.hid (HFN.out rfl)
            go_wp2_with fail
            go_roundw
            case rel => exact ⟨y + 1, by omega, by go_num, rfl, HN2, HP1⟩
            case measure => simp [intOf]; omega
          · obtain ⟨hy1, hy2⟩ := HYES.out y (HFY.out rfl)
            have HY1 := Lib.hid hy1
            have HY2 := Lib.hid hy2
            obtain ⟨z, hz⟩ : ∃ z, L.getD y 0 = z := ⟨_, rfl⟩
            rw [hz] at HY1
            have hzb : z < nx := HC3.out z (by rw [← hz, List.getD_eq_getElem?_getD, List.getElem?_eq_getElem (by have := HLE.out; omega)]; exact List.getElem_mem _)
            obtain ⟨g, cap, hu, h1, h2, h3, h4, h5⟩ := HP1.out.own.cells
            have d1 := h5 y (by have := HLE.out; omega)
            rw [hz] at d1
            have HU := Lib.hid hu
            have hyL : y < L.length := by have := HLE.out; omega
            have hxL : ¬ ((z : Int) < 0) := by omega
            clear h5 hy1 hy2 hz
            have HP2 : Hid (Cl w (.slice (some ⟨g, 0, none⟩) L.length cap) L w1) := by rw [← HU.out]; exact HP1.out
            subst hu
            have hzB : decide ((z : Int) < 0) = false := decide_eq_false hxL
            go_wp2_with (first | (at_builtin; refine wpList_own1 HP2.out.own HLL.out rfl (.tmp 33) (.tmp 35) rfl z _ rfl rfl rfl ?_; intro v' w' ho hg; have HP9 := Lib.hid (HP2.out.push ho hg); clear ho hg) | fail)
            go_roundw
            case rel => exact ⟨x + 1, by omega, by go_num, by rw [HY2.out], by rw [HY1.out]; exact HP9⟩
            case measure => simp [intOf]; omega
        · obtain rfl : y = x := by omega
          obtain ⟨hy1, hy2⟩ := HNO.out HN.out
          have HY1 := Lib.hid hy1
          have HY2 := Lib.hid hy2
          clear hy1 hy2
          go_wp2_with (first | (at_builtin; refine wpList_own1 HP.out.own HLL.out rfl (.tmp 33) (.tmp 35) rfl nx _ rfl rfl rfl ?_; intro v' w' ho hg; have HP9 := Lib.hid (HP.out.push ho hg); clear ho hg) | fail)
          go_roundw
          case rel => exact ⟨y + 1, by omega, by go_num, by rw [HY2.out]; go_num, by rw [HY1.out]; exact HP9⟩
          case measure => simp [intOf]; omega
    · obtain rfl : x = n := by omega
      have HF : Hid (ListO (clsN f x).1 w (.returned u5) wr) := ⟨_, rfl, HP.out.own, HP.out.old⟩
      go_wp2_with fail
      go_ret
      exact HF.out
end Go.Proofs.YtfhogenjpepfnaaGreatDoor
