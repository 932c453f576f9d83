/- The walk of the law FnCircleOf: it returns true. Condition: the bytes are readable. -/
import Derived.Test.YtnhlhjehocngcaaDoorNear
import Derived.Test.YtnhlhjehocngcaaDoorOwnL
import Derived.Test.YtnhlhjehocngcaaDoorPebTu
import Derived.Test.YtnhlhjehocngcaaDoorPebTw
import Derived.Test.YtnhlhjehocngcaaDoorPebNw
import Derived.Test.YtnhlhjehocngcaaDoorBeside
import Derived.Test.YtnhlhjehocngcaaDoorEach
import Derived.Test.YtnhlhjehocngcaaDoorDist
import Derived.Test.YtnhlhjehocngcaaDoorCircle
import Derived.Test.YtnhlhjehocngcaaDoorLag
import Derived.Test.YtnhlhjehocngcaaDoorMakeS
import Derived.Test.YtnhlhjehocngcaaDoorSum
import Derived.Test.YtnhlhjehocngcaaDoorLawS
import Derived.Test.YtnhlhjehocngcaaDoorCircle2
import Derived.Test.YtnhlhjehocngcaaDoorRd
/- The program's classesBy with any function value, and slices.Max of numbers. Conditions: those that each states. -/
namespace Go.Proofs.YtnhlhjehocngcaaDoor
open Go.RowKit
set_option linter.unusedVariables false
set_option maxRecDepth 100000

/-- The first of the numbers up to x that is alike. -/
def fstAl (f : Nat → Nat → Bool) (x : Nat) : Nat → Option Nat
  | 0 => none
  | y + 1 => match fstAl f x y with
    | some z => some z
    | none => if f y x then some y else none
/-- The numbers of classes of the first n things, and how many classes there are. -/
def clsN (f : Nat → Nat → Bool) : Nat → List Nat × Nat
  | 0 => ([], 0)
  | x + 1 => match fstAl f x x with
    | some y => ((clsN f x).1 ++ [(clsN f x).1.getD y 0], (clsN f x).2)
    | none => ((clsN f x).1 ++ [(clsN f x).2], (clsN f x).2 + 1)
theorem fstAl_lt {f : Nat → Nat → Bool} {x : Nat} : ∀ {k y : Nat}, fstAl f x k = some y → y < k ∧ f y x = true
  | 0, y, h => by cases h
  | k + 1, y, h => by
    unfold fstAl at h
    cases he : fstAl f x k with
    | some z =>
      rw [he] at h
      injection h with h
      subst h
      have := fstAl_lt he
      exact ⟨by omega, this.2⟩
    | none =>
      rw [he] at h
      by_cases hf : f k x = true
      · simp only [hf, if_true] at h
        injection h with h
        subst h
        exact ⟨by omega, hf⟩
      · simp only [hf] at h
        cases h
theorem fstAl_no {f : Nat → Nat → Bool} {x k : Nat} (h : fstAl f x k = none) (hf : f k x = false) : fstAl f x (k + 1) = none := by
  unfold fstAl
  rw [h]
  simp [hf]
theorem fstAl_yes {f : Nat → Nat → Bool} {x k : Nat} (h : fstAl f x k = none) (hf : f k x = true) : ∀ {m : Nat}, k < m → fstAl f x m = some k
  | 0, hm => by omega
  | m + 1, hm => by
    unfold fstAl
    by_cases e : k = m
    · subst e
      rw [h]
      simp [hf]
    · rw [fstAl_yes h hf (m := m) (by omega)]
theorem clsN_len (f : Nat → Nat → Bool) : ∀ n, (clsN f n).1.length = n ∧ (clsN f n).2 ≤ n ∧ ∀ z ∈ (clsN f n).1, z < (clsN f n).2
  | 0 => ⟨rfl, Nat.le_refl _, by intro z hz; cases hz⟩
  | n + 1 => by
    obtain ⟨h1, h2, h3⟩ := clsN_len f n
    unfold clsN
    cases he : fstAl f n n with
    | some y =>
      refine ⟨by simp [h1], by show (clsN f n).2 ≤ n + 1; omega, fun z hz => ?_⟩
      rcases List.mem_append.1 hz with hz | hz
      · exact h3 z hz
      · rw [List.mem_singleton.1 hz]
        have := (fstAl_lt he).1
        rw [List.getD_eq_getElem?_getD, List.getElem?_eq_getElem (by omega)]
        exact h3 _ (List.getElem_mem _)
    | none =>
      refine ⟨by simp [h1], by show (clsN f n).2 + 1 ≤ n + 1; omega, fun z hz => ?_⟩
      show z < (clsN f n).2 + 1
      rcases List.mem_append.1 hz with hz | hz
      · have := h3 z hz; omega
      · rw [List.mem_singleton.1 hz]; omega
/-- What classesBy keeps. -/
structure Cl (w : World) (v : Value) (L : List Nat) (wr : World) : Prop where
  own : Own w.heap.size wr v L
  old : Below w.heap.size w wr
theorem Cl.below {w wr w' : World} {v : Value} {L : List Nat} (h : Cl w v L wr) (hb : Below wr.heap.size wr w') : Cl w v L w' := ⟨h.own.below hb, h.old.trans (hb.mono h.old.size)⟩
theorem Cl.push {w wr w' : World} {v v' : Value} {L L' : List Nat} (h : Cl w v L wr) (ho : Own w.heap.size w' v' L') (hg : wr.grownBy w' v.ownBlock) : Cl w v' L' w' :=
  ⟨ho, h.old.grown hg h.old.size (fun k hk => (h.own.own.lt k hk).1)⟩
set_option maxHeartbeats 1000000 in
theorem classesBy_any (n : Nat) (hn : n ≤ 8) (k : FuncId) (c : Array Value) (f : Nat → Nat → Bool) (w : World)
    (hk : ∀ (args : Array Value) (W : World), (callFunc k args).run Tryd.prog W = .ok (.enter k args) W)
    (hf : ∀ x y W, x < n → y < n → Below w.heap.size w W → Calls Tryd.prog k (#[.int .i64 (x : Int), .int .i64 (y : Int)] ++ c) W fun e w' => e = .returned (.bool (f x y)) ∧ Below W.heap.size W w') :
    Calls Tryd.prog 39 #[.int .i64 (n : Int), .func (.func k) #[] c] w (ListO (clsN f n).1 w) := by
  have HF := Lib.hid hf
  have HP0 : Hid (Cl w (.slice (some ⟨w.heap.size, 0, none⟩) 0 0) (clsN f 0).1 (w.alloc (.cells #[] 3))) := ⟨Own.lit0 _ _ (Nat.le_refl _), (Below.refl _ _).alloc (Nat.le_refl _) _⟩
  clear hf
  go_enter Tryd.func39, Tryd.ntmps39
  go_wp2_with fail
  go_loopw [12, 5, 6, 7, 8, 9] (fun q o nx _ _ _ wr => ∃ x : Nat, x ≤ n ∧ q = .int .i64 (x : Int) ∧ nx = .int .i64 ((clsN f x).2 : Int) ∧ Hid (Cl w o (clsN f x).1 wr)) (fun q _ _ _ _ _ _ => n - (intOf q).toNat)
  case atStart => exact ⟨0, by omega, rfl, rfl, HP0⟩
  case round =>
    clear HP0
    obtain ⟨x, hx, rfl, rfl, HP⟩ := hrel
    by_cases hlt : x < n
    · have hxI : (x : Int) < (n : Int) := by omega
      obtain ⟨hc1, hc2, hc3⟩ := clsN_len f x
      have HC3 := Lib.hid hc3
      have HYES : Hid (∀ y, fstAl f x x = some y → (clsN f (x + 1)).1 = (clsN f x).1 ++ [(clsN f x).1.getD y 0] ∧ (clsN f (x + 1)).2 = (clsN f x).2) := fun y hy => by
        rw [clsN, hy]; exact ⟨rfl, rfl⟩
      have HNO : Hid (fstAl f x x = none → (clsN f (x + 1)).1 = (clsN f x).1 ++ [(clsN f x).2] ∧ (clsN f (x + 1)).2 = (clsN f x).2 + 1) := fun hy => by
        rw [clsN, hy]; exact ⟨rfl, rfl⟩
      obtain ⟨L, hL⟩ : ∃ L, (clsN f x).1 = L := ⟨_, rfl⟩
      obtain ⟨nx, hnx⟩ : ∃ L, (clsN f x).2 = L := ⟨_, rfl⟩
      rw [hL] at HP HYES HNO HC3 hc1
      rw [hnx] at HYES HNO HC3 hc2 ⊢
      have HLL : Hid (L.length ≤ 2000000) := by show _ ≤ _; omega
      clear hc3 hL hnx
      have HLE := Lib.hid hc1
      clear hc1
      go_wp2_with fail
      obtain ⟨wo, hwo⟩ : ∃ wo, wo = wr := ⟨_, rfl⟩
      subst hwo
      go_loopw [16, 8, 9] (fun q cl _ wr => ∃ y : Nat, y ≤ x ∧ q = .int .i64 (y : Int) ∧ cl = .int .i64 (-1) ∧ Hid (fstAl f x y = none) ∧ Hid (Cl w u5 L wr)) (fun q _ _ _ => x - (intOf q).toNat)
      case atStart => exact ⟨0, by omega, rfl, rfl, rfl, HP⟩
      case round =>
        clear HP
        obtain ⟨y, hy, rfl, rfl, HN, HP⟩ := hrel
        by_cases hlt2 : y < x
        · have hyI : (y : Int) < (x : Int) := by omega
          have HC := Lib.hid (HF.out y x wr (by omega) hlt HP.out.old)
          have HFN : Hid (f y x = false → fstAl f x (y + 1) = none) := fun h => fstAl_no HN.out h
          have HFY : Hid (f y x = true → fstAl f x x = some y) := fun h => fstAl_yes HN.out h hlt2
          generalize f y x = r at *
          go_wp2_with fail
          refine HC.out.mono ?_; rintro e w1 ⟨rfl, hb1⟩
          have HP1 := Lib.hid (HP.out.below hb1)
          clear hb1 HC
          cases r
          · have HN2 := Lib.hid (HFN.out rfl)
            go_wp2_with fail
            go_roundw
            case rel => exact ⟨y + 1, by omega, by go_num, rfl, HN2, HP1⟩
            case measure => simp [intOf]; omega
          · obtain ⟨hy1, hy2⟩ := HYES.out y (HFY.out rfl)
            have HY1 := Lib.hid hy1
            have HY2 := Lib.hid hy2
            obtain ⟨z, hz⟩ : ∃ z, L.getD y 0 = z := ⟨_, rfl⟩
            rw [hz] at HY1
            have hzb : z < nx := HC3.out z (by rw [← hz, List.getD_eq_getElem?_getD, List.getElem?_eq_getElem (by have := HLE.out; omega)]; exact List.getElem_mem _)
            obtain ⟨g, cap, hu, h1, h2, h3, h4, h5⟩ := HP1.out.own.cells
            have d1 := h5 y (by have := HLE.out; omega)
            rw [hz] at d1
            have HU := Lib.hid hu
            have hyL : y < L.length := by have := HLE.out; omega
            have hxL : ¬ ((z : Int) < 0) := by omega
            clear h5 hy1 hy2 hz
            have HP2 : Hid (Cl w (.slice (some ⟨g, 0, none⟩) L.length cap) L w1) := by rw [← HU.out]; exact HP1.out
            subst hu
            have hzB : decide ((z : Int) < 0) = false := decide_eq_false hxL
            go_wp2_with (first | (at_builtin; refine wpList_own1 HP2.out.own HLL.out rfl (.tmp 33) (.tmp 35) rfl z _ rfl rfl rfl ?_; intro v' w' ho hg; have HP9 := Lib.hid (HP2.out.push ho hg); clear ho hg) | fail)
            go_roundw
            case rel => exact ⟨x + 1, by omega, by go_num, by rw [HY2.out], by rw [HY1.out]; exact HP9⟩
            case measure => simp [intOf]; omega
        · obtain rfl : y = x := by omega
          obtain ⟨hy1, hy2⟩ := HNO.out HN.out
          have HY1 := Lib.hid hy1
          have HY2 := Lib.hid hy2
          clear hy1 hy2
          go_wp2_with (first | (at_builtin; refine wpList_own1 HP.out.own HLL.out rfl (.tmp 33) (.tmp 35) rfl nx _ rfl rfl rfl ?_; intro v' w' ho hg; have HP9 := Lib.hid (HP.out.push ho hg); clear ho hg) | fail)
          go_roundw
          case rel => exact ⟨y + 1, by omega, by go_num, by rw [HY2.out]; go_num, by rw [HY1.out]; exact HP9⟩
          case measure => simp [intOf]; omega
    · obtain rfl : x = n := by omega
      have HF : Hid (ListO (clsN f x).1 w (.returned u5) wr) := ⟨_, rfl, HP.out.own, HP.out.old⟩
      go_wp2_with fail
      go_ret
      exact HF.out
/-- The greatest of the first numbers. -/
def maxU (L : List Nat) : Nat → Nat
  | 0 => L.getD 0 0
  | j + 1 => max (maxU L j) (L.getD (j + 1) 0)
theorem max_any (v : Value) (L : List Nat) (w : World) (hv : NumsAt w v L) (h0 : 0 < L.length) : Calls Tryd.prog 42 #[v] w fun e w' => e = .returned (.int .i64 ((maxU L (L.length - 1) : Nat) : Int)) ∧ w' = w := by
  obtain ⟨a, cap, rfl, l1, l2, l3⟩ := hv.view
  obtain ⟨g, o, rfl, hg, hc⟩ := l3 h0
  have HC := Lib.hid hc
  have d0 := hc 0 h0
  rw [Nat.add_zero] at d0
  unfold maxLen at l2
  clear l3 hv hc
  have h0I : ¬ ((L.length : Int) < 1) := by omega
  have h0B : decide ((L.length : Int) < 1) = false := decide_eq_false h0I
  have HM0 : Hid (L.getD 0 0 = maxU L 0) := rfl
  go_enter Tryd.func42, Tryd.ntmps42
  go_wp2_with fail
  go_loop [4, 3] (fun i m => ∃ k : Nat, k + 1 ≤ L.length ∧ i = .int .i64 ((k + 1 : Nat) : Int) ∧ m = .int .i64 ((maxU L k : Nat) : Int)) (fun i _ => L.length + 1 - (intOf i).toNat)
  case atStart => exact ⟨0, by omega, rfl, by rw [← HM0.out]; simp [List.getD_eq_getElem?_getD, List.getElem?_eq_getElem h0]⟩
  case round =>
    obtain ⟨k, hk, rfl, rfl⟩ := hrel
    obtain ⟨k1, hk1⟩ : ∃ k1, k + 1 = k1 := ⟨_, rfl⟩
    rw [hk1]
    by_cases hlt : k1 < L.length
    · have d1 := HC.out k1 hlt
      have hkI : (k1 : Int) < (L.length : Int) := by omega
      have HM : Hid (maxU L k1 = max (maxU L k) (L.getD k1 0)) := by show _ = _; rw [← hk1]; rfl
      generalize L.getD k1 0 = y at *
      generalize maxU L k = x at *
      have hmx : max (x : Int) (y : Int) = ((max x y : Nat) : Int) := by omega
      obtain ⟨mx, hmxe⟩ : ∃ mx, max x y = mx := ⟨_, rfl⟩
      have HM2 : Hid (maxU L k1 = mx) := by show _ = _; rw [HM.out, hmxe]
      have hyx : (if (y : Int) > (x : Int) then (y : Int) else (x : Int)) = (mx : Int) := by
        rw [← hmxe]; split <;> omega
      rw [hmxe] at hmx
      clear hmxe HM
      go_wp2_with fail
      go_round
      case rel => exact ⟨k1, by omega, by go_num, by rw [HM2.out]⟩
      case measure => simp [intOf]; omega
    · have HE : Hid (maxU L k = maxU L (L.length - 1)) := by show _ = _; congr 1; omega
      go_wp2_with fail
      go_ret
      exact ⟨ret_int (by rw [HE.out]), rfl⟩
end Go.Proofs.YtnhlhjehocngcaaDoor
/- Games of pebbles, plainly: what the arrays of a game hold after some turns. No condition. -/
namespace Go.Proofs.YtnhlhjehocngcaaDoor
open Go.RowKit
set_option linter.unusedVariables false
set_option maxRecDepth 100000

theorem getD_setF (l : List Bool) (i j : Nat) : (l.set i false).getD j false = true ↔ l.getD j false = true ∧ j ≠ i := by
  simp only [List.getD_eq_getElem?_getD, List.getElem?_set]
  by_cases e : i = j
  · subst e
    rw [if_pos rfl]
    constructor
    · intro h
      split at h
      · simp at h
      · simp at h
    · rintro ⟨_, h⟩; exact absurd rfl h
  · rw [if_neg e]
    constructor
    · intro h; exact ⟨h, fun e2 => e e2.symm⟩
    · rintro ⟨h, _⟩; exact h
theorem clrN_get (N : List Bool) (s step q : Nat) : ∀ K, (clrN N s step K).getD q false = true ↔ N.getD q false = true ∧ ∀ j, j < K → q ≠ s + step * j
  | 0 => by simp [clrN]
  | K + 1 => by
    unfold clrN
    rw [getD_setF, clrN_get N s step q K]
    constructor
    · rintro ⟨⟨h1, h2⟩, h3⟩
      refine ⟨h1, fun j hj => ?_⟩
      by_cases e : j = K
      · rw [e]; exact h3
      · exact h2 j (by omega)
    · rintro ⟨h1, h2⟩
      exact ⟨⟨h1, fun j hj => h2 j (by omega)⟩, h2 K (by omega)⟩
theorem trS_get (n m : Nat) (W : List Bool) (step : Nat) (N : List Bool) (q : Nat) : ∀ s, (trS n m W step N s).getD q false = true ↔ N.getD q false = true ∧ ∀ r, r < s → keepB n m W step r = true ∨ ∀ j, j < n * m + 1 → q ≠ r + step * j
  | 0 => by simp [trS]
  | s + 1 => by
    unfold trS
    by_cases hk : keepB n m W step s = true
    · rw [if_pos hk, trS_get n m W step N q s]
      constructor
      · rintro ⟨h1, h2⟩
        refine ⟨h1, fun r hr => ?_⟩
        by_cases e : r = s
        · rw [e]; exact .inl hk
        · exact h2 r (by omega)
      · rintro ⟨h1, h2⟩
        exact ⟨h1, fun r hr => h2 r (by omega)⟩
    · rw [if_neg hk, clrN_get, trS_get n m W step N q s]
      constructor
      · rintro ⟨⟨h1, h2⟩, h3⟩
        refine ⟨h1, fun r hr => ?_⟩
        by_cases e : r = s
        · rw [e]; exact .inr h3
        · exact h2 r (by omega)
      · rintro ⟨h1, h2⟩
        refine ⟨⟨h1, fun r hr => h2 r (by omega)⟩, ?_⟩
        rcases h2 s (by omega) with h | h
        · exact absurd h hk
        · exact h
theorem trI_get (n m : Nat) (W F : List Bool) (q : Nat) : ∀ i, (trI n m W F i).getD q false = true ↔ F.getD q false = true ∧ ∀ i', i' < i → ∀ r, r < F.length → keepB n m W ((n * m + 1) ^ i') r = true ∨ ∀ j, j < n * m + 1 → q ≠ r + (n * m + 1) ^ i' * j
  | 0 => by simp [trI]
  | i + 1 => by
    unfold trI
    rw [trS_get, trI_get n m W F q i]
    constructor
    · rintro ⟨⟨h1, h2⟩, h3⟩
      refine ⟨h1, fun i' hi' => ?_⟩
      by_cases e : i' = i
      · rw [e]; exact h3
      · exact h2 i' (by omega)
    · rintro ⟨h1, h2⟩
      exact ⟨⟨h1, fun i' hi' => h2 i' (by omega)⟩, h2 i (by omega)⟩
/-- More is won with more. -/
theorem ansF_mono {n m : Nat} {f g : Nat → Nat → Bool} (h : ∀ x y, f x y = true → g x y = true) (ha : ansF n m f = true) : ansF n m g = true := by
  unfold ansF at ha ⊢
  simp only [Bool.and_eq_true, List.all_eq_true, List.any_eq_true] at ha ⊢
  refine ⟨fun x hx => ?_, fun y hy => ?_⟩
  · obtain ⟨y, hy, h1⟩ := ha.1 x hx
    exact ⟨y, hy, h x y h1⟩
  · obtain ⟨x, hx, h1⟩ := ha.2 y hy
    exact ⟨x, hx, h x y h1⟩
theorem ansF_iff {n m : Nat} {f : Nat → Nat → Bool} : ansF n m f = true ↔ (∀ x, x < n → ∃ y, y < m ∧ f x y = true) ∧ ∀ y, y < m → ∃ x, x < n ∧ f x y = true := by
  unfold ansF
  simp only [Bool.and_eq_true, List.all_eq_true, List.any_eq_true, List.mem_range]
theorem ansF_congr {n m : Nat} {f g : Nat → Nat → Bool} (h : ∀ x y, x < n → y < m → f x y = g x y) : ansF n m f = ansF n m g := by
  rw [Bool.eq_iff_iff, ansF_iff, ansF_iff]
  constructor
  · rintro ⟨h1, h2⟩
    refine ⟨fun x hx => ?_, fun y hy => ?_⟩
    · obtain ⟨y, hy, h3⟩ := h1 x hx; exact ⟨y, hy, by rw [← h x y hx hy]; exact h3⟩
    · obtain ⟨x, hx, h3⟩ := h2 y hy; exact ⟨x, hx, by rw [← h x y hx hy]; exact h3⟩
  · rintro ⟨h1, h2⟩
    refine ⟨fun x hx => ?_, fun y hy => ?_⟩
    · obtain ⟨y, hy, h3⟩ := h1 x hx; exact ⟨y, hy, by rw [h x y hx hy]; exact h3⟩
    · obtain ⟨x, hx, h3⟩ := h2 y hy; exact ⟨x, hx, by rw [h x y hx hy]; exact h3⟩
/-- One list of bools is no more than another. -/
def leB (W W' : List Bool) : Prop := ∀ q : Nat, W.getD q false = true → W'.getD q false = true
theorem keepB_mono {n m : Nat} {W W' : List Bool} (h : leB W W') {step s : Nat} (hk : keepB n m W step s = true) : keepB n m W' step s = true := by
  unfold keepB at hk ⊢
  rw [Bool.or_eq_true] at hk ⊢
  rcases hk with hk | hk
  · exact .inl hk
  · refine .inr ?_
    unfold ansB at hk ⊢
    exact ansF_mono (fun x y hxy => by unfold fW at hxy ⊢; exact h _ hxy) hk
theorem turnU_mono {n m k : Nat} {F W W' : List Bool} (h : leB W W') : leB (turnU n m k F W) (turnU n m k F W') := by
  intro q hq
  unfold turnU at hq ⊢
  rw [trI_get] at hq ⊢
  refine ⟨hq.1, fun i hi r hr => ?_⟩
  rcases hq.2 i hi r hr with h1 | h1
  · exact .inl (keepB_mono h h1)
  · exact .inr h1
theorem turnU_le (n m k : Nat) (F W : List Bool) : leB (turnU n m k F W) F := by
  intro q hq
  unfold turnU at hq
  rw [trI_get] at hq
  exact hq.1
/-- What is won after some turns. -/
def lev (n m k : Nat) (F : List Bool) : Nat → List Bool
  | 0 => F
  | t + 1 => turnU n m k F (lev n m k F t)
theorem lev_len (n m k : Nat) (F : List Bool) : ∀ t, (lev n m k F t).length = F.length
  | 0 => rfl
  | t + 1 => turnU_len _ _ _ _ _
theorem lev_le (n m k : Nat) (F : List Bool) : ∀ t, leB (lev n m k F (t + 1)) (lev n m k F t)
  | 0 => turnU_le n m k F _
  | t + 1 => turnU_mono (lev_le n m k F t)
/-- How many bools are true. -/
def cntT : List Bool → Nat
  | [] => 0
  | b :: l => (if b then 1 else 0) + cntT l
theorem cntT_le : ∀ l : List Bool, cntT l ≤ l.length
  | [] => Nat.le_refl _
  | b :: l => by
    have := cntT_le l
    unfold cntT
    simp only [List.length_cons]
    split <;> omega
theorem leB.tail {b c : Bool} {W W' : List Bool} (h : leB (b :: W) (c :: W')) : leB W W' := fun q hq => by
  have := h (q + 1) (by simpa using hq)
  simpa using this
theorem cntT_mono : ∀ {W W' : List Bool}, W.length = W'.length → leB W W' → cntT W ≤ cntT W'
  | [], [], _, _ => Nat.le_refl _
  | [], _ :: _, h, _ => by simp at h
  | _ :: _, [], h, _ => by simp at h
  | b :: W, c :: W', h, hl => by
    have h1 := cntT_mono (by simpa using h) hl.tail
    have h2 := hl 0
    unfold cntT
    cases b <;> cases c <;> simp_all <;> omega
theorem cntT_lt : ∀ {W W' : List Bool}, W.length = W'.length → leB W W' → W ≠ W' → cntT W < cntT W'
  | [], [], _, _, hn => absurd rfl hn
  | [], _ :: _, h, _, _ => by simp at h
  | _ :: _, [], h, _, _ => by simp at h
  | b :: W, c :: W', h, hl, hn => by
    have h1 := cntT_mono (by simpa using h) hl.tail
    have h2 := hl 0
    unfold cntT
    by_cases e : W = W'
    · subst e
      cases b <;> cases c <;> simp_all
    · have h3 := cntT_lt (by simpa using h) hl.tail e
      cases b <;> cases c <;> simp_all <;> omega
/-- The elements under pebbles. -/
def layN (L : List Int) : List Nat := (L.filter fun x => decide (0 ≤ x)).map Int.toNat
theorem layN_cons (x : Int) (L : List Int) : layN (x :: L) = if 0 ≤ x then x.toNat :: layN L else layN L := by
  unfold layN
  by_cases h : 0 ≤ x
  · rw [if_pos h, List.filter_cons_of_pos (by simpa using h)]; rfl
  · rw [if_neg h, List.filter_cons_of_neg (by simpa using h)]
theorem layN_lt {n : Nat} {L : List Int} (h : ∀ x ∈ L, -1 ≤ x ∧ x < (n : Int)) : ∀ z ∈ layN L, z < n := by
  intro z hz
  unfold layN at hz
  obtain ⟨x, hx, rfl⟩ := List.mem_map.1 hz
  have := h x (List.mem_filter.1 hx).1
  have h0 := (List.mem_filter.1 hx).2
  simp at h0
  omega
theorem dig_pos {m : Nat} {x y : Int} (h0 : 0 ≤ x) (hs : x < 0 ↔ y < 0) (hy : y < (m : Int)) (hm : 0 < m) : 0 < dig m x y ∧ (dig m x y - 1) / m = x.toNat ∧ (dig m x y - 1) % m = y.toNat := by
  unfold dig
  rw [if_pos h0]
  have e : 1 + x.toNat * m + y.toNat - 1 = y.toNat + m * x.toNat := by rw [Nat.mul_comm m]; omega
  have hyl : y.toNat < m := by omega
  refine ⟨by omega, ?_, ?_⟩
  · rw [e, Nat.add_mul_div_left _ _ hm, Nat.div_eq_of_lt hyl, Nat.zero_add]
  · rw [e, Nat.add_mul_mod_self_left, Nat.mod_eq_of_lt hyl]
theorem stP_cons (P m : Nat) (x y : Int) (L M : List Int) : stP P m (x :: L) (y :: M) = stP P m L M * P + dig m x y := rfl
theorem ly_stP {n m : Nat} (hm : 0 < m) : ∀ {L M : List Int}, Rdy n m L M → lyA (n * m + 1) m L.length (stP (n * m + 1) m L M) = layN L ∧ lyB (n * m + 1) m L.length (stP (n * m + 1) m L M) = layN M
  | [], [], _ => ⟨rfl, rfl⟩
  | [], _ :: _, h => by have := h.len; simp at this
  | _ :: _, [], h => by have := h.len; simp at this
  | x :: L, y :: M, h => by
    have ih := ly_stP hm h.tail
    have hs : x < 0 ↔ y < 0 := by simpa using h.sg 0
    have hd := dig_lt (n := n) (m := m) (h.la x (by simp)).2 (h.lb y (by simp)).2 hs
    have e1 : stP (n * m + 1) m (x :: L) (y :: M) % (n * m + 1) = dig m x y := by
      rw [stP_cons, Nat.add_comm, Nat.add_mul_mod_self_right, Nat.mod_eq_of_lt hd]
    have e2 : stP (n * m + 1) m (x :: L) (y :: M) / (n * m + 1) = stP (n * m + 1) m L M := by
      rw [stP_cons, Nat.add_comm, Nat.add_mul_div_right _ _ (by omega), Nat.div_eq_of_lt hd, Nat.zero_add]
    rw [List.length_cons, layN_cons, layN_cons]
    unfold lyA lyB
    rw [e1, e2, ih.1, ih.2]
    by_cases h0 : 0 ≤ x
    · obtain ⟨d1, d2, d3⟩ := dig_pos h0 hs (h.lb y (by simp)).2 hm
      rw [if_pos d1, if_pos d1, if_pos h0, if_pos (show 0 ≤ y by omega), d2, d3]
      exact ⟨rfl, rfl⟩
    · have hz : dig m x y = 0 := by unfold dig; rw [if_neg h0]
      rw [hz, if_neg (show ¬ 0 < 0 by omega), if_neg (show ¬ 0 < 0 by omega), if_neg h0, if_neg (show ¬ 0 ≤ y by omega)]
      exact ⟨rfl, rfl⟩
theorem stP_digit {n m : Nat} : ∀ {L M : List Int} (i : Nat), Rdy n m L M → i < L.length → stP (n * m + 1) m L M / (n * m + 1) ^ i % (n * m + 1) = dig m (L.getD i 0) (M.getD i 0)
  | [], _, i, _, hi => by simp at hi
  | _ :: _, [], i, h, _ => by have := h.len; simp at this
  | x :: L, y :: M, 0, h, _ => by
    have hs : x < 0 ↔ y < 0 := by simpa using h.sg 0
    have hd := dig_lt (n := n) (m := m) (h.la x (by simp)).2 (h.lb y (by simp)).2 hs
    rw [Nat.pow_zero, Nat.div_one, stP_cons, Nat.add_comm, Nat.add_mul_mod_self_right, Nat.mod_eq_of_lt hd]
    simp
  | x :: L, y :: M, i + 1, h, hi => by
    have hs : x < 0 ↔ y < 0 := by simpa using h.sg 0
    have hd := dig_lt (n := n) (m := m) (h.la x (by simp)).2 (h.lb y (by simp)).2 hs
    have e2 : stP (n * m + 1) m (x :: L) (y :: M) / (n * m + 1) = stP (n * m + 1) m L M := by
      rw [stP_cons, Nat.add_comm, Nat.add_mul_div_right _ _ (by omega), Nat.div_eq_of_lt hd, Nat.zero_add]
    rw [Nat.pow_succ, Nat.mul_comm ((n * m + 1) ^ i), ← Nat.div_div_eq_div_mul, e2, stP_digit i h.tail (by simpa using hi)]
    simp
theorem stP_set (P m : Nat) (x y : Int) : ∀ {L M : List Int} (i : Nat), L.length = M.length → i < L.length → stP P m (L.set i x) (M.set i y) + P ^ i * dig m (L.getD i 0) (M.getD i 0) = stP P m L M + P ^ i * dig m x y
  | [], _, i, _, hi => by simp at hi
  | _ :: _, [], i, h, _ => by simp at h
  | x' :: L, y' :: M, 0, h, _ => by
    simp only [List.set_cons_zero, stP_cons, Nat.pow_zero, Nat.one_mul]
    simp
    omega
  | x' :: L, y' :: M, i + 1, h, hi => by
    have ih := stP_set P m x y (L := L) (M := M) i (by simpa using h) (by simpa using hi)
    simp only [List.set_cons_succ, stP_cons]
    have e : (x' :: L).getD (i + 1) 0 = L.getD i 0 ∧ (y' :: M).getD (i + 1) 0 = M.getD i 0 := by simp
    rw [e.1, e.2]
    generalize dig m (L.getD i 0) (M.getD i 0) = d1 at *
    generalize dig m x y = d2 at *
    generalize stP P m (L.set i x) (M.set i y) = a at *
    generalize stP P m L M = b at *
    rw [Nat.pow_succ]
    have h2 : (a + P ^ i * d1) * P = (b + P ^ i * d2) * P := by rw [ih]
    rw [Nat.add_mul, Nat.add_mul] at h2
    have e1 : P ^ i * P * d1 = P ^ i * d1 * P := by rw [Nat.mul_assoc, Nat.mul_comm P d1, ← Nat.mul_assoc]
    have e2 : P ^ i * P * d2 = P ^ i * d2 * P := by rw [Nat.mul_assoc, Nat.mul_comm P d2, ← Nat.mul_assoc]
    rw [e1, e2]
    omega
theorem getD_setI (L : List Int) (i j : Nat) (x : Int) (hi : i < L.length) : (L.set i x).getD j 0 = if i = j then x else L.getD j 0 := by
  simp only [List.getD_eq_getElem?_getD, List.getElem?_set]
  by_cases e : i = j
  · subst e
    rw [if_pos rfl, if_pos rfl, if_pos hi]
    rfl
  · rw [if_neg e, if_neg e]
theorem mem_setI {L : List Int} {i : Nat} {x z : Int} (h : z ∈ L.set i x) : z ∈ L ∨ z = x := by
  rcases List.mem_or_eq_of_mem_set h with h | h
  · exact .inl h
  · exact .inr h
theorem Rdy.set {n m : Nat} {L M : List Int} (h : Rdy n m L M) (i : Nat) (x y : Int) (hx : -1 ≤ x ∧ x < (n : Int)) (hy : -1 ≤ y ∧ y < (m : Int)) (hs : x < 0 ↔ y < 0) : Rdy n m (L.set i x) (M.set i y) := by
  refine ⟨by rw [List.length_set, List.length_set, h.len], fun z hz => ?_, fun z hz => ?_, fun j => ?_⟩
  · rcases mem_setI hz with hz | rfl
    · exact h.la z hz
    · exact hx
  · rcases mem_setI hz with hz | rfl
    · exact h.lb z hz
    · exact hy
  · by_cases hi : i < L.length
    · rw [getD_setI _ _ _ _ hi, getD_setI _ _ _ _ (by rw [← h.len]; exact hi)]
      split
      · exact hs
      · exact h.sg j
    · rw [List.set_eq_of_length_le (by omega), List.set_eq_of_length_le (by have := h.len; omega)]
      exact h.sg j
theorem Rdy.put {n m : Nat} {L M : List Int} (h : Rdy n m L M) (i : Nat) {x y : Nat} (hx : x < n) (hy : y < m) : Rdy n m (L.set i (x : Int)) (M.set i (y : Int)) :=
  h.set i _ _ (by omega) (by omega) (by omega)
theorem dig_nat (m x y : Nat) : dig m (x : Int) (y : Int) = 1 + x * m + y := by
  unfold dig
  rw [if_pos (by omega)]
  simp
/-- A way is won after a turn more. -/
theorem turn_at {n m k : Nat} {F W : List Bool} {L M : List Int} (h : Rdy n m L M) (hk : L.length = k) (hF : F.length = (n * m + 1) ^ k) :
    (turnU n m k F W).getD (stP (n * m + 1) m L M) false = true ↔ F.getD (stP (n * m + 1) m L M) false = true ∧ ∀ i, i < k → ansF n m (fun x y => W.getD (stP (n * m + 1) m (L.set i (x : Int)) (M.set i (y : Int))) false) = true := by
  unfold turnU
  rw [trI_get]
  have hlen := h.len
  have hq := stP_lt h
  rw [hk, ← hF] at hq
  obtain ⟨P, hP⟩ : ∃ P, n * m + 1 = P := ⟨_, rfl⟩
  have hPp : 0 < P := by omega
  rw [hP] at hq
  have key : ∀ i, i < k → ((∀ r, r < F.length → keepB n m W (P ^ i) r = true ∨ ∀ j, j < P → stP P m L M ≠ r + P ^ i * j) ↔ ansF n m (fun x y => W.getD (stP P m (L.set i (x : Int)) (M.set i (y : Int))) false) = true) := by
    intro i hi
    have hpi : 0 < P ^ i := Nat.pow_pos hPp
    have hdg := stP_digit i h (by omega)
    have hd := dig_lt (n := n) (m := m) (x := L.getD i 0) (y := M.getD i 0) (h.la _ (by rw [List.getD_eq_getElem?_getD, List.getElem?_eq_getElem (by omega)]; exact List.getElem_mem _)).2 (h.lb _ (by rw [List.getD_eq_getElem?_getD, List.getElem?_eq_getElem (by omega)]; exact List.getElem_mem _)).2 (h.sg i)
    rw [hP] at hdg hd
    obtain ⟨d, hde⟩ : ∃ d, dig m (L.getD i 0) (M.getD i 0) = d := ⟨_, rfl⟩
    -- the way without the pebble
    have hz : stP P m (L.set i (-1)) (M.set i (-1)) + P ^ i * d = stP P m L M := by
      have := stP_set P m (-1) (-1) i hlen (by omega)
      rw [hde, show dig m (-1) (-1) = 0 from rfl, Nat.mul_zero, Nat.add_zero] at this
      exact this
    have hrz := h.set i (-1) (-1) (by omega) (by omega) (by omega)
    have hzd : stP P m (L.set i (-1)) (M.set i (-1)) / P ^ i % P = 0 := by
      have := stP_digit i hrz (by rw [List.length_set]; omega)
      rw [hP, getD_setI _ _ _ _ (by omega), getD_setI _ _ _ _ (by omega), if_pos rfl, if_pos rfl] at this
      rw [this]; rfl
    have hw : ∀ x y : Nat, stP P m (L.set i (x : Int)) (M.set i (y : Int)) = stP P m (L.set i (-1)) (M.set i (-1)) + P ^ i * (1 + x * m + y) := by
      intro x y
      have h1 := stP_set P m (x : Int) (y : Int) i hlen (by omega)
      rw [hde, dig_nat] at h1
      omega
    obtain ⟨z, hze⟩ : ∃ z, stP P m (L.set i (-1)) (M.set i (-1)) = z := ⟨_, rfl⟩
    rw [hze] at hz hzd
    rw [hde] at hdg hd
    have hzl : z < F.length := by omega
    have ha : ansB n m W z (P ^ i) = ansF n m (fun x y => W.getD (stP P m (L.set i (x : Int)) (M.set i (y : Int))) false) := by
      unfold ansB
      congr 1
      funext x y
      unfold fW
      rw [hw, hze]
    rw [← ha]
    constructor
    · intro hh
      rcases hh z hzl with h1 | h1
      · unfold keepB at h1
        rw [hP, hzd] at h1
        simpa using h1
      · exact absurd hz.symm (h1 d hd)
    · intro hans r hr
      by_cases hr0 : r / P ^ i % P = 0
      · by_cases hex : ∃ j, j < P ∧ stP P m L M = r + P ^ i * j
        · obtain ⟨j, hj, hje⟩ := hex
          left
          have h1 : (r + P ^ i * j) / P ^ i = r / P ^ i + j := Nat.add_mul_div_left r j hpi
          have h2 : d = j := by
            rw [← hdg, hje, h1, Nat.add_mod, hr0, Nat.zero_add, Nat.mod_mod, Nat.mod_eq_of_lt hj]
          have h3 : r = z := by
            rw [← h2, ← hz] at hje
            generalize P ^ i * d = pd at *
            omega
          unfold keepB
          rw [h3, hans, Bool.or_true]
        · exact .inr fun j hj e => hex ⟨j, hj, e⟩
      · left
        unfold keepB
        rw [hP, decide_eq_true (show r / P ^ i % P ≠ 0 from hr0)]
        rfl
  rw [hP]
  constructor
  · rintro ⟨h1, h2⟩
    exact ⟨h1, fun i hi => (key i hi).1 (h2 i hi)⟩
  · rintro ⟨h1, h2⟩
    exact ⟨h1, fun i hi => (key i hi).2 (h2 i hi)⟩
/-- Whether the second player wins so many turns. -/
def pwB (a b : Gs.St) (n m : Nat) : Nat → List Int → List Int → Bool
  | 0, L, M => Gs.same a (layN L) b (layN M)
  | t + 1, L, M => Gs.same a (layN L) b (layN M) && (List.range L.length).all fun i => ansF n m fun x y => pwB a b n m t (L.set i (x : Int)) (M.set i (y : Int))
theorem fit_at {a b : Gs.St} {n m : Nat} {L M : List Int} (h : Rdy n m L M) (hm : 0 < m) : (fitL a b n m L.length).getD (stP (n * m + 1) m L M) false = Gs.same a (layN L) b (layN M) := by
  have hq := stP_lt h
  unfold fitL
  rw [List.getD_eq_getElem?_getD, List.getElem?_map, List.getElem?_range hq]
  show fitB a b n m L.length _ = _
  unfold fitB
  rw [(ly_stP hm h).1, (ly_stP hm h).2]
theorem lev_at {a b : Gs.St} {n m : Nat} (hm : 0 < m) : ∀ (t : Nat) {L M : List Int}, Rdy n m L M → (lev n m L.length (fitL a b n m L.length) t).getD (stP (n * m + 1) m L M) false = pwB a b n m t L M
  | 0, L, M, h => fit_at h hm
  | t + 1, L, M, h => by
    unfold lev pwB
    rw [Bool.eq_iff_iff, turn_at h rfl (fitL_len _ _ _ _ _), Bool.and_eq_true, fit_at h hm, List.all_eq_true]
    have e : ∀ i, i < L.length → ansF n m (fun x y => (lev n m L.length (fitL a b n m L.length) t).getD (stP (n * m + 1) m (L.set i (x : Int)) (M.set i (y : Int))) false) = ansF n m fun x y => pwB a b n m t (L.set i (x : Int)) (M.set i (y : Int)) := by
      intro i hi
      apply ansF_congr
      intro x y hx hy
      have := lev_at (a := a) (b := b) hm t (h.put i hx hy)
      rw [List.length_set] at this
      exact this
    constructor
    · rintro ⟨h1, h2⟩
      exact ⟨h1, fun i hi => by rw [← e i (List.mem_range.1 hi)]; exact h2 i (List.mem_range.1 hi)⟩
    · rintro ⟨h1, h2⟩
      exact ⟨h1, fun i hi => by rw [e i hi]; exact h2 i (List.mem_range.2 hi)⟩
end Go.Proofs.YtnhlhjehocngcaaDoor
/- The program's PebbleClasses. Conditions: the structure is valid, the number of pebbles is allowed. -/
namespace Go.Proofs.YtnhlhjehocngcaaDoor
open Go.RowKit
set_option linter.unusedVariables false
set_option maxRecDepth 100000

/-- Pebbles that lie beside but for the first. -/
def putI (k x : Nat) : List Int := (List.replicate k (-1)).set 0 (x : Int)
theorem beside_rdy (n k : Nat) : Rdy n n (List.replicate k (-1)) (List.replicate k (-1)) :=
  ⟨rfl, fun x hx => by rw [List.eq_of_mem_replicate hx]; omega, fun x hx => by rw [List.eq_of_mem_replicate hx]; omega, fun j => Iff.rfl⟩
theorem putI_rdy {n k x y : Nat} (hx : x < n) (hy : y < n) : Rdy n n (putI k x) (putI k y) := (beside_rdy n k).put 0 hx hy
theorem OwnI.setI {B g n cap : Nat} {w : World} {L : List Int} (h : OwnI B w (.slice (some ⟨g, 0, none⟩) n cap) L) (hn : L.length = n) (j : Nat) (z : Int) : OwnI B (w.setCell ⟨g, j, none⟩ (.int .i64 z)) (.slice (some ⟨g, 0, none⟩) n cap) (L.set j z) := by
  have h1 := h.own
  rw [hn] at h1
  refine ⟨?_, by simp, by simpa [World.setCell] using h.low⟩
  rw [List.length_set, List.map_set, hn]
  exact (h1.stored j (.int .i64 z)).1
theorem OwnI.frozen {B g n cap : Nat} {w : World} {L : List Int} (h : OwnI B w (.slice (some ⟨g, 0, none⟩) n cap) L) (hn : L.length = n) (j : Nat) : w.frozen? ⟨g, j, none⟩ = false := by
  have h1 := h.own
  rw [hn] at h1
  exact h1.frozenAt j
/-- Two lists of the call's own. -/
structure Pr2 (w : World) (va vb : Value) (A B : List Int) (wr : World) : Prop where
  a : OwnI w.heap.size wr va A
  b : OwnI w.heap.size wr vb B
  ne : va.ownBlock ≠ vb.ownBlock
  old : Below w.heap.size w wr
theorem Pr2.swap {w wr : World} {va vb : Value} {A B : List Int} (h : Pr2 w va vb A B wr) : Pr2 w vb va B A wr := ⟨h.b, h.a, fun e => h.ne e.symm, h.old⟩
theorem Pr2.setA {w wr : World} {g n cap : Nat} {vb : Value} {A B : List Int} (h : Pr2 w (.slice (some ⟨g, 0, none⟩) n cap) vb A B wr) (hn : A.length = n) (j : Nat) (z : Int) : Pr2 w (.slice (some ⟨g, 0, none⟩) n cap) vb (A.set j z) B (wr.setCell ⟨g, j, none⟩ (.int .i64 z)) :=
  ⟨h.a.setI hn j z, h.b.kept (fun k hk _ => Below.heap_setCell _ _ _ _ (fun e => h.ne (by rw [hk, e]; rfl))) (by simp), h.ne, h.old.setCell (h.a.own.lt g rfl).1 _⟩
set_option maxHeartbeats 1000000 in
theorem pebCl_any (p n k : Nat) (S R : ByteArray) (F W : List Bool) (x y b1 b2 : Nat) (w : World) (hQ : PebQ w p n S R n S R k F W) (c1 : w.cell? ⟨b1, 0, none⟩ = some (.int .i64 (k : Int))) (c2 : w.cell? ⟨b2, 0, none⟩ = some (.pointer (some ⟨p, 0, none⟩)))
    (hn1 : 1 ≤ n) (hn : n ≤ 8) (hk1 : 1 ≤ k) (hk3 : k ≤ 3) (hx : x < n) (hy : y < n) (hW : W.length = (n * n + 1) ^ k) :
    Calls Tryd.prog 40 #[.int .i64 (x : Int), .int .i64 (y : Int), .pointer (some ⟨b1, 0, none⟩), .pointer (some ⟨b2, 0, none⟩)] w fun e w' => e = .returned (.bool (W.getD (stP (n * n + 1) n (putI k x) (putI k y)) false)) ∧ Below w.heap.size w w' := by
  have HQ := Lib.hid hQ
  have HBE := Lib.hid (fun w => besides_any k (by omega) w)
  have l1 := World.block_lt_of_cell? _ _ c1
  have l2 := World.block_lt_of_cell? _ _ c2
  obtain ⟨RES, hres⟩ : ∃ r, W.getD (stP (n * n + 1) n (putI k x) (putI k y)) false = r := ⟨_, rfl⟩
  have HRES := Lib.hid hres
  rw [hres]
  clear hQ hres
  go_enter Tryd.func40, Tryd.ntmps40
  go_wp2_with fail
  go_region_held3 (fun w' => w'.cell? ⟨b1, 0, none⟩ = some (.int .i64 (k : Int)))
    (first | exact (HP2.out.old.cell (p := ⟨b1, 0, none⟩) l1).trans c1 | exact (HP1.out.2.cell (p := ⟨b1, 0, none⟩) l1).trans c1 | go_keep)
    (first
    | (go_at_call 37; refine (HBE.out _).mono ?_; rintro e w2 ⟨v2, rfl, ho2, hb2⟩; have HP2 : Hid (Pr2 w v1 v2 (List.replicate k (-1)) (List.replicate k (-1)) w2) := ⟨HP1.out.1.below hb2, ho2.mono HP1.out.2.size, (by obtain ⟨j, hj, j1, j2⟩ := HP1.out.1.block; obtain ⟨i, hi, i1, i2⟩ := ho2.block; rw [hj, hi]; intro e; injection e with e; omega), HP1.out.2.trans (hb2.mono HP1.out.2.size)⟩; clear ho2 hb2)
    | (go_at_call 37; refine (HBE.out _).mono ?_; rintro e w1 ⟨v1, rfl, ho1, hb1⟩; have HP1 : Hid (OwnI w.heap.size w1 v1 (List.replicate k (-1)) ∧ Below w.heap.size w w1) := ⟨ho1, (Below.refl _ _).drew.trans hb1⟩; clear ho1 hb1))
  all_goals
    obtain ⟨g1, q1, e1, m1, m2, m3, m4, m5⟩ := HP2.out.a.cells
    obtain ⟨g2, q2, e2, n1, n2, n3, n4, n5⟩ := HP2.out.b.cells
    rw [List.length_replicate] at e1 e2 m3 n3 m5 n5
    subst e1
    subst e2
    have p0 := m5 0 (by omega)
    have p0f := HP2.out.a.frozen (List.length_replicate ..) 0
    have HP3 := Lib.hid (HP2.out.setA (List.length_replicate ..) 0 (x : Int))
    have p1 := ((Below.heap_setCell w2 ⟨g1, 0, none⟩ (.int .i64 (x : Int)) g2 (fun e => HP2.out.ne (by rw [show g2 = g1 from e]; rfl))))
    have p2 := (World.cell?_of_block (a := ⟨g2, 0, none⟩) p1).trans (n5 0 (by omega))
    have p2f := HP3.out.b.frozen (List.length_replicate ..) 0
    have HP4 := Lib.hid (HP3.out.swap.setA (List.length_replicate ..) 0 (y : Int)).swap
    have HP5 : Hid (Pr2 w (.slice (some ⟨g1, 0, none⟩) k q1) (.slice (some ⟨g2, 0, none⟩) k q2) (putI k x) (putI k y) ((w2.setCell ⟨g1, 0, none⟩ (.int .i64 (x : Int))).setCell ⟨g2, 0, none⟩ (.int .i64 (y : Int)))) := HP4.out
    have hkI : (0 : Int) < (k : Int) := by omega
    clear HP1 HP3 HP4 p1 m5 n5
    generalize (List.replicate k (-1 : Int)).getD 0 0 = z0 at *
    go_upto_region 3 with fail
    obtain ⟨W5, hW5⟩ : ∃ W5, (w2.setCell ⟨g1, 0, none⟩ (.int .i64 (x : Int))).setCell ⟨g2, 0, none⟩ (.int .i64 (y : Int)) = W5 := ⟨_, rfl⟩
    rw [hW5] at HP5 ⊢
    clear hW5 p0 p0f p2 p2f
    obtain ⟨fv, wv, hG, hf, hb, hfp, hwp⟩ := HQ.out.below HP5.out.old
    have d9 := hG.cells.2.2.2.2.2.1
    have hc2 := (HP5.out.old.cell (p := ⟨b2, 0, none⟩) l2).trans c2
    have hplt := hG.lt
    have hst := stP_lt (putI_rdy (k := k) hx hy)
    have hlen : (putI k x).length = k := by unfold putI; rw [List.length_set, List.length_replicate]
    have hlen2 : (putI k y).length = k := by unfold putI; rw [List.length_set, List.length_replicate]
    rw [hlen, ← hW] at hst
    obtain ⟨wg, wc, rfl, w1', w2', w3', w4'⟩ := hb
    have dst := w4' _ hst
    rw [HRES.out] at dst
    have j1 := fun (sc : Since W5) => stateOf_any p n n k S R S R fv (.slice (some ⟨wg, 0, none⟩) W.length wc) _ _ (putI k x) (putI k y) sc.w (hG.below sc.below) (HP5.out.a.ints.below sc.below) (HP5.out.b.ints.below sc.below) (putI_rdy hx hy) hlen hk3 hn hn
    generalize stP (n * n + 1) n (putI k x) (putI k y) = st at *
    have J1 := Lib.hid j1
    have f9 := fun s => Since.cell d9 s
    have f2 := fun s => Since.cell hc2 s
    have fs := fun s => Since.cell dst s
    have hstI : (st : Int) < (W.length : Int) := by omega
    clear hG hf w4' j1 c1 c2
    go_wp2_with fail
    refine wp_region_since (by kernel_rfl) (by kernel_rfl) ?_
    repeat (go_big_quiet_step ((with_reducible exact Since.call (J1.out _))))
    refine wpQuiet_nil ?_
    intro w9 hb9
    have HO := Lib.hid (HP5.out.old.trans (hb9.mono HP5.out.old.size))
    clear hb9 f9 f2 fs
    go_wp2_with fail
    go_ret
    exact ⟨rfl, HO.out⟩
theorem boxed_cell {W : World} {b : Nat} {x : Value} {t : TypeId} (h : W.heap[b]? = some (.cells #[x] t (0, 0))) : W.cell? ⟨b, 0, none⟩ = some x ∧ W.frozen? ⟨b, 0, none⟩ = false ∧ b < W.heap.size := by
  refine ⟨?_, ?_, (Array.getElem?_eq_some_iff.1 h).1⟩
  · unfold World.cell?; rw [h]; rfl
  · unfold World.frozen?; rw [h]; rfl
theorem put_len (k x : Nat) : (putI k x).length = k := by unfold putI; rw [List.length_set, List.length_replicate]
theorem put_lev (a : Gs.St) (n k t x y : Nat) (hn : 0 < n) (hx : x < n) (hy : y < n) : (lev n n k (fitL a a n n k) t).getD (stP (n * n + 1) n (putI k x) (putI k y)) false = pwB a a n n t (putI k x) (putI k y) := by
  have := lev_at (a := a) (b := a) hn t (putI_rdy (k := k) hx hy)
  rw [put_len] at this
  exact this
theorem maxU_le {L : List Nat} {b : Nat} (h : ∀ z ∈ L, z ≤ b) : ∀ j, maxU L j ≤ b
  | 0 => by
    unfold maxU
    rw [List.getD_eq_getElem?_getD]
    by_cases h0 : 0 < L.length
    · rw [List.getElem?_eq_getElem h0]; exact h _ (List.getElem_mem _)
    · rw [List.getElem?_eq_none (by omega)]; exact Nat.zero_le _
  | j + 1 => by
    have h1 := maxU_le h j
    have h2 : L.getD (j + 1) 0 ≤ b := by
      rw [List.getD_eq_getElem?_getD]
      by_cases h0 : j + 1 < L.length
      · rw [List.getElem?_eq_getElem h0]; exact h _ (List.getElem_mem _)
      · rw [List.getElem?_eq_none (by omega)]; exact Nat.zero_le _
    unfold maxU
    omega
/-- How many are won: read in memory. -/
def winW (w : World) (p len : Nat) : Nat := match w.cell? ⟨p, 9, none⟩ with
  | some (.slice (some a) _ _) => cntT ((List.range len).map fun j => match w.cell? ⟨a.block, j, none⟩ with | some (.bool b) => b | _ => false)
  | _ => 0
theorem winW_is {w : World} {p n m k : Nat} {S R S2 R2 : ByteArray} {F W : List Bool} (h : PebQ w p n S R m S2 R2 k F W) : winW w p W.length = cntT W := by
  obtain ⟨fv, wv, hG, hf, ⟨g, cap, rfl, h1, h2, h3, h4⟩, hfp, hwp⟩ := h
  unfold winW
  rw [hG.cells.2.2.2.2.2.1]
  show cntT _ = _
  congr 1
  apply List.ext_getElem
  · simp
  · intro j h5 h6
    simp only [List.getElem_map, List.getElem_range]
    rw [h4 j h6]
    simp [h6]
theorem turn_less {n m k : Nat} {F : List Bool} {t : Nat} (h : turnU n m k F (lev n m k F t) ≠ lev n m k F t) : cntT (lev n m k F (t + 1)) < cntT (lev n m k F t) :=
  cntT_lt (by rw [lev_len, lev_len]) (lev_le n m k F t) h
theorem beside_ready {n k : Nat} {S R : ByteArray} (hv : validB n S R = true) (h1 : 1 ≤ k) (h3 : k ≤ 3) : pebRdB n S R (List.replicate k (-1)) n S R (List.replicate k (-1)) = true := by
  have ha : pebA n (List.replicate k (-1)) = true := by
    unfold pebA
    rw [List.all_eq_true]
    intro x hx
    rw [List.eq_of_mem_replicate hx]
    unfold pebR
    simp
    omega
  have hs : sideB (List.replicate k (-1)) (List.replicate k (-1)) = true := by
    unfold sideB
    rw [List.all_eq_true]
    intro j _
    simp
  unfold pebRdB pebsB
  rw [hv, ha, hs]
  simp
  omega
/-- What PebbleClasses keeps: its boxes. -/
structure Pc (w : World) (n k : Nat) (S R : ByteArray) (wr : World) : Prop where
  a : SBlk wr w.heap.size n S R
  c : wr.heap[w.heap.size + 1]? = some (.cells #[.int .i64 (k : Int)] 3 (0, 0))
  old : Below w.heap.size w wr
section
variable {w wr w' : World} {n k : Nat} {S R : ByteArray}
theorem Pc.lt (h : Pc w n k S R wr) : w.heap.size + 1 < wr.heap.size := (Array.getElem?_eq_some_iff.1 h.c).1
theorem Pc.below (h : Pc w n k S R wr) (hb : Below wr.heap.size wr w') : Pc w n k S R w' :=
  ⟨h.a.below hb h.a.cells.2.2.2.2.2.2, (hb.block _ h.lt).trans h.c, h.old.trans (hb.mono h.old.size)⟩
theorem Pc.cells (h : Pc w n k S R wr) : wr.cell? ⟨w.heap.size, 0, none⟩ = some (.int .i64 (n : Int)) ∧ wr.cell? ⟨w.heap.size, 1, none⟩ = some (.string S) ∧ wr.cell? ⟨w.heap.size, 2, none⟩ = some (.string R) ∧ wr.cell? ⟨w.heap.size + 1, 0, none⟩ = some (.int .i64 (k : Int)) :=
  ⟨h.a.cells.1, h.a.cells.2.1, h.a.cells.2.2.1, (boxed_cell h.c).1⟩
theorem Pc.off {p : Nat} (h : Pc w n k S R wr) (ho : Off (fun b => b = p) wr w') (hp : w.heap.size + 2 ≤ p) : Pc w n k S R w' :=
  ⟨(ho.block _ h.a.cells.2.2.2.2.2.2 (fun e => by omega)).trans h.a, (ho.block _ h.lt (fun e => by omega)).trans h.c, ⟨ho.os.trans h.old.os, ho.tape.trans h.old.tape, ho.output.trans h.old.output, Nat.le_trans h.old.size ho.size, fun b hb => (ho.block b (Nat.lt_of_lt_of_le hb h.old.size) (fun e => by omega)).trans (h.old.block b hb)⟩⟩
theorem Pc.first (w : World) (n k : Nat) (S R : ByteArray) : Pc w n k S R ((boxS w n S R).alloc (.cells #[.int .i64 (k : Int)] 3)) := by
  have hb : Below (boxS w n S R).heap.size (boxS w n S R) ((boxS w n S R).alloc (.cells #[.int .i64 (k : Int)] 3)) := (Below.refl _ _).alloc (Nat.le_refl _) _
  refine ⟨(boxS_SBlk w n S R).below hb (by rw [boxS_size]; omega), ?_, (boxS_below w n S R).trans (hb.mono (by rw [boxS_size]; omega))⟩
  have := heap_alloc_new (boxS w n S R) (.cells #[.int .i64 (k : Int)] 3)
  rw [boxS_size] at this
  exact this
end
/-- A box of one value. -/
structure BoxAt (w : World) (b : Nat) (x : Value) (t : TypeId) : Prop where
  blk : w.heap[b]? = some (.cells #[x] t (0, 0))
theorem BoxAt.lt {w : World} {b : Nat} {x : Value} {t : TypeId} (h : BoxAt w b x t) : b < w.heap.size := (boxed_cell h.blk).2.2
theorem BoxAt.cell {w : World} {b : Nat} {x : Value} {t : TypeId} (h : BoxAt w b x t) : w.cell? ⟨b, 0, none⟩ = some x ∧ w.frozen? ⟨b, 0, none⟩ = false := ⟨(boxed_cell h.blk).1, (boxed_cell h.blk).2.1⟩
theorem BoxAt.below {w w' : World} {b : Nat} {x : Value} {t : TypeId} (h : BoxAt w b x t) (hb : Below w.heap.size w w') : BoxAt w' b x t := ⟨(hb.block b h.lt).trans h.blk⟩
theorem BoxAt.new (w : World) (x : Value) (t : TypeId) : BoxAt (w.alloc (.cells #[x] t)) w.heap.size x t := ⟨heap_alloc_new w _⟩
/-- What PebbleClasses returns. -/
def PcP (w : World) (n k : Nat) (a : Gs.St) (e : Ending) (w' : World) : Prop := ∃ t, e = .returned (.int .i64 (((maxU (clsN (fun y x => pwB a a n n t (putI k y) (putI k x)) n).1 (n - 1) : Nat) : Int) + 1)) ∧ Below w.heap.size w w'
/-- What the loop of PebbleClasses keeps. -/
structure PcQ (w : World) (n k : Nat) (S R : ByteArray) (p bx : Nat) (F W : List Bool) (wr : World) : Prop where
  c : Pc w n k S R wr
  q : PebQ wr p n S R n S R k F W
  x : BoxAt wr bx (.pointer (some ⟨p, 0, none⟩)) 55
  ne : bx ≠ p
  pl : w.heap.size + 2 ≤ p
theorem PebS.low {B B' : Nat} {w : World} {p n m k : Nat} {S R S2 R2 : ByteArray} {F W : List Bool} (h : PebS B w p n S R m S2 R2 k F W) (hB : B' ≤ B) : PebS B' w p n S R m S2 R2 k F W := by
  obtain ⟨fv, wv, h1, h2, h3, h4, h5, h6, h7⟩ := h
  exact ⟨fv, wv, h1, h2, h3, h4, h5, fun j hj => Nat.le_trans hB (h6 j hj), fun j hj => Nat.le_trans hB (h7 j hj)⟩
theorem PcQ.turn {w wr w' : World} {n k : Nat} {S R : ByteArray} {p bx : Nat} {F W W' : List Bool} (h : PcQ w n k S R p bx F W wr) (hq : PebQ w' p n S R n S R k F W') (ho : Off (fun b => b = p) wr w') : PcQ w n k S R p bx F W' w' :=
  ⟨h.c.off ho h.pl, hq, ⟨(ho.block _ h.x.lt h.ne).trans h.x.blk⟩, h.ne, h.pl⟩
theorem PcQ.below {w wr w' : World} {n k : Nat} {S R : ByteArray} {p bx : Nat} {F W : List Bool} (h : PcQ w n k S R p bx F W wr) (hb : Below wr.heap.size wr w') : PcQ w n k S R p bx F W w' :=
  ⟨h.c.below hb, h.q.below hb, h.x.below hb, h.ne, h.pl⟩
theorem PcQ.late {w w1 w4 : World} {n k : Nat} {S R : ByteArray} {p : Nat} {F W : List Bool} (h1 : Pc w n k S R w1) (hq : PebQ w4 p n S R n S R k F W) (hb : Below w1.heap.size w1 w4) (hp : w1.heap.size ≤ p) :
    PcQ w n k S R p w4.heap.size F W (w4.alloc (.cells #[.pointer (some ⟨p, 0, none⟩)] 55)) := by
  have ha : Below w4.heap.size w4 (w4.alloc (.cells #[.pointer (some ⟨p, 0, none⟩)] 55)) := (Below.refl _ _).alloc (Nat.le_refl _) _
  have hl : p < w4.heap.size := by
    obtain ⟨fv, wv, hG, _⟩ := hq
    exact hG.lt
  have := h1.lt
  exact ⟨h1.below (hb.trans (ha.mono hb.size)), hq.below ha, BoxAt.new _ _ _, by omega, by omega⟩
theorem PcQ.early {w w1 w4 : World} {n k : Nat} {S R : ByteArray} {p bx : Nat} {F W : List Bool} (h1 : Pc w n k S R w1) (hq : PebS (bx + 1) w4 p n S R n S R k F W) (hb : Below w1.heap.size w1 w4) (hx : BoxAt w4 bx (.pointer none) 55) (hl : w1.heap.size ≤ bx) (hp : bx < p) :
    PcQ w n k S R p bx F W (w4.setCell ⟨bx, 0, none⟩ (.pointer (some ⟨p, 0, none⟩))) := by
  have := h1.lt
  refine ⟨h1.below (hb.setCell (by simpa using hl) _), (hq.kept (by omega) (fun j hj _ => Below.heap_setCell _ _ _ _ (by simp; omega)) (by simp)).q, ⟨?_⟩, by omega, by omega⟩
  have := hx.blk
  simp [World.setCell, Array.getElem?_modify, this]
set_option maxHeartbeats 2000000 in
theorem PebbleClasses_any (n k : Nat) (S R : ByteArray) (hv : validB n S R = true) (hk1 : 1 ≤ k) (hk3 : k ≤ 3) (w : World) :
    Calls Tryd.prog 13 #[strV n S R, .int .i64 (k : Int)] w (PcP w n k (stOf n S R)) := by
  obtain ⟨h1, h8, hS, hR, _, _⟩ := valid_is hv
  have HIS : Hid (∀ w, Calls Tryd.prog 29 #[strV n S R] w fun e w' => e = .returned (.bool true) ∧ Below w.heap.size w w') := fun w => by
    have := isStructure_any n S R w (by omega) (by rw [hR]; have := Nat.mul_le_mul h8 h8; omega)
    rw [hv] at this
    exact this
  have HBE := Lib.hid (fun w => besides_any k (by omega) w)
  have HNP : Hid (∀ w v u, IntsAt w v (List.replicate k (-1)) → IntsAt w u (List.replicate k (-1)) → Calls Tryd.prog 36 #[strV n S R, v, strV n S R, u] w (NewP w n S R n S R k)) := fun w v u hv' hu => by
    have := newPebbles_any n n S R S R (List.replicate k (-1)) (List.replicate k (-1)) v u w hv' hu (beside_ready hv hk1 hk3)
    rw [List.length_replicate] at this
    exact this
  have HTN := Lib.hid (fun p F W w hQ hF hW => turn_any p n n k S R S R F W w hQ h8 h8 h1 h1 hk3 hF hW)
  have HCL := Lib.hid (fun p F W x y b1 b2 w hQ c1 c2 hx hy hW => pebCl_any p n k S R F W x y b1 b2 w hQ c1 c2 h1 h8 hk1 hk3 hx hy hW)
  have HCB := Lib.hid (fun k c f w hk hf => classesBy_any n h8 k c f w hk hf)
  have HMX := Lib.hid (fun v L w hv h0 => max_any v L w hv h0)
  have HP0 := Lib.hid (Pc.first w n k S R)
  obtain ⟨W, hW⟩ : ∃ W, (boxS w n S R).alloc (.cells #[.int .i64 (k : Int)] 3) = W := ⟨_, rfl⟩
  rw [hW] at HP0
  unfold boxS at hW
  have HW := Lib.hid hW
  clear hW hS hR hv
  have hk3I : ¬ (3 : Int) < (k : Int) := by omega
  have hk1I : ¬ (k : Int) < 1 := by omega
  have hk3B : decide ((3 : Int) < (k : Int)) = false := decide_eq_false hk3I
  have hk1B : decide ((k : Int) < 1) = false := decide_eq_false hk1I
  unfold strV at HIS HNP
  unfold strV
  go_enter Tryd.func13, Tryd.ntmps13
  go_upto_region 1 with fail
  rw [HW.out]
  obtain ⟨s0, s1, s2, _, _, _, hl⟩ := HP0.out.a.cells
  obtain ⟨sc, _⟩ := boxed_cell HP0.out.c
  go_wp2_with fail
  refine (HIS.out _).mono ?_; rintro e w1 ⟨rfl, hb1⟩
  have HP1 := Lib.hid (HP0.out.below hb1)
  clear s0 s1 s2 hl sc hb1 HP0
  obtain ⟨s0, s1, s2, _, _, _, hl⟩ := HP1.out.a.cells
  obtain ⟨sc, _⟩ := boxed_cell HP1.out.c
  go_upto_region 3 with fail
  have hl1 := HP1.out.lt
  go_region_held3 (fun w' => w'.cell? ⟨w.heap.size, 0, none⟩ = some (.int .i64 (n : Int)) ∧ w'.cell? ⟨w.heap.size, 1, none⟩ = some (.string S) ∧ w'.cell? ⟨w.heap.size, 2, none⟩ = some (.string R) ∧ w'.cell? ⟨w.heap.size + 1, 0, none⟩ = some (.int .i64 (k : Int)))
    (first | exact (HP1.out.below (HP4.out.2.1.alloc HP4.out.2.1.size _)).cells | exact (HP1.out.below HP4.out.2.1).cells | exact (HP1.out.below (HP4.out.2.1.setCell (by first | omega | (have := HP2.out.2.size; have := HP3.out.2.2.size; show _ ≤ _; simp; try omega)) _)).cells | exact (HP1.out.below HP3.out.2.2).cells | exact (HP1.out.below HP2.out.2).cells | go_keep)
    (first
    | (go_at_call 36; refine (HNP.out _ _ _ ?_ ?_).mono ?_; (first | exact HP3.out.1.ints | exact HP3.out.2.1.ints | exact (HP3.out.1.below ((Below.refl _ _).alloc (Nat.le_refl _) _)).ints | exact (HP3.out.2.1.below ((Below.refl _ _).alloc (Nat.le_refl _) _)).ints); (first | exact HP3.out.1.ints | exact HP3.out.2.1.ints | exact (HP3.out.1.below ((Below.refl _ _).alloc (Nat.le_refl _) _)).ints | exact (HP3.out.2.1.below ((Below.refl _ _).alloc (Nat.le_refl _) _)).ints); rintro e w4 ⟨p, rfl, hq4, hb4, hp4⟩; have HP4 : Hid (PebQ w4 p n S R n S R k (fitL (stOf n S R) (stOf n S R) n n k) (fitL (stOf n S R) (stOf n S R) n n k) ∧ Below w1.heap.size w1 w4 ∧ w1.heap.size ≤ p) := ⟨hq4.q, (by first | exact HP3.out.2.2.trans (hb4.mono HP3.out.2.2.size) | exact (HP3.out.2.2.alloc HP3.out.2.2.size _).trans (hb4.mono (by have := HP3.out.2.2.size; simp; omega))), (by have := HP3.out.2.2.size; first | omega | (simp at hp4; omega))⟩; (first | have HX4 : Hid (BoxAt w4 w3.heap.size (.pointer none) 55 ∧ w3.heap.size < p ∧ PebS (w3.heap.size + 1) w4 p n S R n S R k (fitL (stOf n S R) (stOf n S R) n n k) (fitL (stOf n S R) (stOf n S R) n n k)) := ⟨(BoxAt.new w3 _ _).below hb4, (by simp at hp4; omega), (by simpa using hq4)⟩ | have HX4 : Hid (BoxAt w4 w2.heap.size (.pointer none) 55 ∧ w2.heap.size < p ∧ PebS (w2.heap.size + 1) w4 p n S R n S R k (fitL (stOf n S R) (stOf n S R) n n k) (fitL (stOf n S R) (stOf n S R) n n k)) := ⟨HX3.out.below hb4, Nat.lt_of_lt_of_le HX3.out.lt hp4, hq4.low HX3.out.lt⟩ | have HX4 : Hid (BoxAt w4 w1.heap.size (.pointer none) 55 ∧ w1.heap.size < p ∧ PebS (w1.heap.size + 1) w4 p n S R n S R k (fitL (stOf n S R) (stOf n S R) n n k) (fitL (stOf n S R) (stOf n S R) n n k)) := ⟨HX3.out.below hb4, Nat.lt_of_lt_of_le HX3.out.lt hp4, hq4.low HX3.out.lt⟩ | skip); (first | obtain ⟨x0, x1⟩ := HX4.out.1.cell | skip); clear hq4 hb4 hp4)
    | (go_at_call 37; refine (HBE.out _).mono ?_; rintro e w3 ⟨v2, rfl, ho2, hb2⟩; have HP3 : Hid (OwnI w1.heap.size w3 v1 (List.replicate k (-1)) ∧ OwnI w1.heap.size w3 v2 (List.replicate k (-1)) ∧ Below w1.heap.size w1 w3) := (by first | exact ⟨HP2.out.1.below hb2, ho2.mono HP2.out.2.size, HP2.out.2.trans (hb2.mono HP2.out.2.size)⟩ | exact ⟨(HP2.out.1.below ((Below.refl _ _).alloc (Nat.le_refl _) _)).below hb2, ho2.mono (by have := HP2.out.2.size; simp; omega), (HP2.out.2.alloc HP2.out.2.size _).trans (hb2.mono (by have := HP2.out.2.size; simp; omega))⟩); (first | have HX3 : Hid (BoxAt w3 w2.heap.size (.pointer none) 55) := (BoxAt.new w2 _ _).below hb2 | have HX3 : Hid (BoxAt w3 w1.heap.size (.pointer none) 55) := HX2.out.below hb2 | skip); clear ho2 hb2)
    | (go_at_call 37; refine (HBE.out _).mono ?_; rintro e w2 ⟨v1, rfl, ho1, hb1⟩; have HP2 : Hid (OwnI w1.heap.size w2 v1 (List.replicate k (-1)) ∧ Below w1.heap.size w1 w2) := (by first | exact ⟨ho1, (Below.refl _ _).drew.trans hb1⟩ | exact ⟨ho1.mono (by simp), ((Below.refl w1.heap.size w1).drew.alloc (Nat.le_refl _) _).trans (hb1.mono (by simp))⟩ | exact ⟨ho1.mono (by simp), ((Below.refl w1.heap.size w1).alloc (Nat.le_refl _) _).drew.trans (hb1.mono (by simp))⟩); (first | have HX2 : Hid (BoxAt w2 w1.heap.size (.pointer none) 55) := (BoxAt.new w1 _ _).below hb1 | have HX2 : Hid (BoxAt w2 w1.heap.size (.pointer none) 55) := (BoxAt.new w1.drew _ _).below hb1 | have HX2 : Hid (BoxAt w2 w1.heap.size (.pointer none) 55) := ((BoxAt.new w1 _ _).below ((Below.refl _ _).drew)).below hb1 | skip); clear ho1 hb1))
  all_goals
    obtain ⟨bx, WX, e1, e2, HPQ⟩ : ∃ bx WX, _ = bx ∧ _ = WX ∧ Hid (PcQ w n k S R p bx (fitL (stOf n S R) (stOf n S R) n n k) (lev n n k (fitL (stOf n S R) (stOf n S R) n n k) 0) WX) := by
      first
        | exact ⟨_, _, rfl, rfl, PcQ.early HP1.out HX4.out.2.2 HP4.out.2.1 HX4.out.1 (by first | omega | exact HP3.out.2.2.size | exact HP2.out.2.size) HX4.out.2.1⟩
        | exact ⟨_, _, rfl, rfl, PcQ.late HP1.out HP4.out.1 HP4.out.2.1 HP4.out.2.2⟩
    rw [e2, e1]
    clear e1 e2 HP1 HP2 HP3 HP4
    obtain ⟨x0, x1⟩ := HPQ.out.x.cell
    have HFL : Hid ((fitL (stOf n S R) (stOf n S R) n n k).length = (n * n + 1) ^ k) := fitL_len _ _ _ _ _
    have HLV := Lib.hid (fun t x y hx hy => put_lev (stOf n S R) n k t x y (by omega) hx hy)
    obtain ⟨F, hFE⟩ : ∃ F, fitL (stOf n S R) (stOf n S R) n n k = F := ⟨_, rfl⟩
    have HFE := Lib.hid hFE
    rw [hFE] at HPQ HFL HLV
    have HTL := Lib.hid (fun t (h : turnU n n k F (lev n n k F t) ≠ lev n n k F t) => turn_less h)
    clear hFE
    go_wp2_with fail
    go_loopw [25] (fun _ wr => ∃ t, Hid (PcQ w n k S R p bx F (lev n n k F t) wr)) (fun _ wr => winW wr p F.length)
    case atStart => exact ⟨0, HPQ⟩
    case round =>
      clear HPQ x0 x1
      obtain ⟨t, HPQ⟩ := hrel
      obtain ⟨x0, x1⟩ := HPQ.out.x.cell
      have HT := Lib.hid (HTN.out p F (lev n n k F t) wr HPQ.out.q HFL.out (by rw [lev_len]; exact HFL.out))
      go_wp2_with fail
      refine HT.out.mono ?_; rintro e w9 ⟨rfl, hq9, ho9⟩
      have HQ9 := Lib.hid (HPQ.out.turn hq9 ho9)
      have HM1 := Lib.hid (winW_is HPQ.out.q)
      have HM2 := Lib.hid (winW_is hq9)
      rw [lev_len] at HM1
      rw [turnU_len] at HM2
      have HTT := Lib.hid (HTL.out t)
      clear hq9 ho9 x0 x1 HT
      obtain ⟨r, hr⟩ : ∃ r, decide (turnU n n k F (lev n n k F t) = lev n n k F t) = r := ⟨_, rfl⟩
      rw [hr]
      cases r
      · have HLT := Lib.hid (HTT.out (of_decide_eq_false hr))
        clear hr
        go_wp2_with fail
        go_roundw
        case rel => exact ⟨t + 1, HQ9⟩
        case measure => rw [HM1.out, HM2.out]; exact HLT.out
      · have HE := Lib.hid (of_decide_eq_true hr)
        clear hr HTT
        rw [HE.out] at HQ9
        obtain ⟨s0, s1, s2, sc⟩ := HQ9.out.c.cells
        obtain ⟨y0, y1⟩ := HQ9.out.x.cell
        have HCC := Lib.hid (HCB.out 40 #[.pointer (some ⟨w.heap.size + 1, 0, none⟩), .pointer (some ⟨bx, 0, none⟩)] (fun y x => pwB (stOf n S R) (stOf n S R) n n t (putI k y) (putI k x)) w9 (fun _ _ => by kernel_rfl) (fun x y W' hx hy hb => by
          have hq := HQ9.out.below hb
          rw [← HLV.out t x y hx hy]
          exact HCL.out p F (lev n n k F t) x y (w.heap.size + 1) bx W' hq.q hq.c.cells.2.2.2 hq.x.cell.1 hx hy (by rw [lev_len]; exact HFL.out)))
        go_wp2_with fail
        refine HCC.out.mono ?_; rintro e w10 ⟨v, rfl, ho, hb10⟩
        have HN := Lib.hid (ho.nums)
        obtain ⟨g, cap, rfl, _, _, _, _, _⟩ := ho.cells
        have HMM := Lib.hid (HMX.out _ _ w10 HN.out (by rw [(clsN_len _ _).1]; omega))
        have HB10 := Lib.hid (HQ9.out.c.old.trans (hb10.mono HQ9.out.c.old.size))
        have HLN := Lib.hid (clsN_len (fun y x => pwB (stOf n S R) (stOf n S R) n n t (putI k y) (putI k x)) n)
        rw [HLN.out.1] at HMM ⊢
        have HMB : Hid (maxU (clsN (fun y x => pwB (stOf n S R) (stOf n S R) n n t (putI k y) (putI k x)) n).1 (n - 1) ≤ 8) := by
          show _ ≤ _
          refine Nat.le_trans (maxU_le ?_ _) h8
          intro z hz
          have := HLN.out.2.2 z hz
          have := HLN.out.2.1
          omega
        have HF : Hid (PcP w n k (stOf n S R) (.returned (.int .i64 (((maxU (clsN (fun y x => pwB (stOf n S R) (stOf n S R) n n t (putI k y) (putI k x)) n).1 (n - 1) : Nat) : Int) + 1))) w10) := ⟨t, rfl, HB10.out⟩
        have hmb := HMB.out
        generalize maxU (clsN (fun y x => pwB (stOf n S R) (stOf n S R) n n t (putI k y) (putI k x)) n).1 (n - 1) = mx at *
        clear ho hb10 HLN
        go_wp2_with fail
        refine HMM.out.mono ?_; rintro e w11 ⟨rfl, hw11⟩; rw [hw11]; clear hw11
        go_wp2_with fail
        go_ret
        exact HF.out
end Go.Proofs.YtnhlhjehocngcaaDoor
/- The program's OrbitOf. Conditions: the structure is valid, the number is its element. -/
namespace Go.Proofs.YtnhlhjehocngcaaDoor
open Go.RowKit
set_option linter.unusedVariables false
set_option maxRecDepth 100000

/-- Which elements some orders move an element to. -/
def orbB (n x : Nat) (ts : List (List Nat)) : List Bool := ts.foldl (fun l o => l.set (o.getD x 0) true) (List.replicate n false)
theorem orbB_snoc (n x : Nat) (ts : List (List Nat)) (o : List Nat) : orbB n x (ts ++ [o]) = (orbB n x ts).set (o.getD x 0) true := by
  unfold orbB
  rw [List.foldl_append]
  rfl
theorem foldset_len (x : Nat) : ∀ (ts : List (List Nat)) (l : List Bool), (ts.foldl (fun l o => l.set (o.getD x 0) true) l).length = l.length
  | [], l => rfl
  | o :: ts, l => by
    rw [List.foldl_cons, foldset_len x ts, List.length_set]
theorem orbB_len (n x : Nat) (ts : List (List Nat)) : (orbB n x ts).length = n := by
  unfold orbB
  rw [foldset_len, List.length_replicate]
/-- What orbitOf keeps. -/
structure OrbJ (bn bx gi n x : Nat) (ts : List (List Nat)) (W : World) : Prop where
  i : W.heap[bn]? = some (.cells #[.slice (some ⟨gi, 0, none⟩) n n] 60 (0, 0))
  bxc : W.heap[bx]? = some (.cells #[.int .i64 (x : Int)] 3 (0, 0))
  g : W.heap[gi]? = some (.cells (boolC (orbB n x ts)) 4 (0, 0))
theorem OrbJ.turn {bn bx gi n x : Nat} {ts : List (List Nat)} {W : World} (h : OrbJ bn bx gi n x ts W) (h1 : bn ≠ gi) (h2 : bx ≠ gi) (o : List Nat) : OrbJ bn bx gi n x (ts ++ [o]) (W.setCell ⟨gi, o.getD x 0, none⟩ (.bool true)) :=
  ⟨(Below.heap_setCell W ⟨gi, o.getD x 0, none⟩ (.bool true) bn h1).trans h.i, (Below.heap_setCell W ⟨gi, o.getD x 0, none⟩ (.bool true) bx h2).trans h.bxc, by rw [orbB_snoc]; exact boolC_set h.g _ _⟩
theorem OrbJ.below {bn bx gi n x B : Nat} {ts : List (List Nat)} {W W' : World} (h : OrbJ bn bx gi n x ts W) (h1 : bn < B) (h2 : bx < B) (h3 : gi < B) (hb : Below B W W') : OrbJ bn bx gi n x ts W' :=
  ⟨(hb.block _ h1).trans h.i, (hb.block _ h2).trans h.bxc, (hb.block _ h3).trans h.g⟩
theorem orb_teller (n x h bn bx gi : Nat) (h1 : bn < h) (h2 : bx < h) (h3 : gi < h) (hbg : bn ≠ gi) (hxg : bx ≠ gi) (hx : x < n) :
    Teller n h 53 #[.pointer (some ⟨bn, 0, none⟩), .pointer (some ⟨bx, 0, none⟩)] true (fun k => k = gi) (OrbJ bn bx gi n x) := by
  refine ⟨(fun k hk => by rw [hk]; exact h3), (fun args W => by kernel_rfl), ?_, ?_⟩
  · rintro ts o v W _ hJ hv h8 hs hon hol
    have HT := Lib.hid (hJ.turn hbg hxg o)
    obtain ⟨z, hz⟩ : ∃ z, o.getD x 0 = z := ⟨_, rfl⟩
    have hzn : z < n := hol z (by rw [← hz, List.getD_eq_getElem?_getD, List.getElem?_eq_getElem (by omega)]; exact List.getElem_mem _)
    obtain ⟨a, cap, rfl, hv1, hv2, hv3⟩ := hv.view
    obtain ⟨go, oo, rfl, _, hvc⟩ := hv3 (by omega)
    have hvx := hvc x (by omega)
    rw [hz] at hvx
    obtain ⟨c0, _, _⟩ := cell_of hJ.i
    obtain ⟨c1, _, _⟩ := cell_of hJ.bxc
    obtain ⟨c2, c3⟩ := boolC_cell hJ.g z (by rw [orbB_len]; exact hzn)
    rw [hz] at HT
    have HOFF : Hid (Off (fun k => k = gi) W (W.setCell ⟨gi, z, none⟩ (.bool true))) := ⟨rfl, rfl, rfl, by simp, fun k hk hn => Below.heap_setCell _ _ _ _ (by simpa using hn)⟩
    have hxo : x < o.length := by omega
    generalize o.length = ol at *
    generalize (orbB n x ts).getD z false = bz at *
    clear hv3 hvc hv hol hJ hz
    go_enter Tryd.func53, Tryd.ntmps53
    go_wp2_with fail
    go_region
    go_wp2_with fail
    go_ret
    exact ⟨rfl, ⟨HT.out.i, HT.out.bxc, HT.out.g⟩, ⟨HOFF.out.os, HOFF.out.tape, HOFF.out.output, HOFF.out.size, HOFF.out.block⟩⟩
  · rintro ts W W' _ hJ hbl
    exact hJ.below h1 h2 h3 hbl
/-- The elements to which symmetries move an element, among the first k. -/
def orbL (n : Nat) (B : List Bool) (k : Nat) : List Nat := (List.range k).filter fun y => B.getD y false
theorem orbL_succ (n : Nat) (B : List Bool) (k : Nat) : orbL n B (k + 1) = if B.getD k false = true then orbL n B k ++ [k] else orbL n B k := by
  unfold orbL
  rw [List.range_succ, List.filter_append]
  cases h : B.getD k false
  · have h2 : List.filter (fun y => B.getD y false) [k] = [] := by rw [List.filter_cons_of_neg (by rw [h]; decide)]; rfl
    rw [h2, List.append_nil, if_neg (by decide)]
  · have h2 : List.filter (fun y => B.getD y false) [k] = [k] := by rw [List.filter_cons_of_pos (by rw [h])]; rfl
    rw [h2, if_pos rfl]
theorem orbL_len (n : Nat) (B : List Bool) (k : Nat) : (orbL n B k).length ≤ k := by
  have := List.length_filter_le (fun y => B.getD y false) (List.range k)
  rwa [List.length_range] at this
/-- The bools and the list that is built. -/
structure Ob (w : World) (gi n : Nat) (B : List Bool) (v : Value) (L : List Nat) (wr : World) : Prop where
  g : wr.heap[gi]? = some (.cells (boolC B) 4 (0, 0))
  own : Own (gi + 1) wr v L
  lo : w.heap.size ≤ gi
  old : Below w.heap.size w wr
theorem Ob.push {w wr w' : World} {gi n : Nat} {B : List Bool} {v v' : Value} {L L' : List Nat} (h : Ob w gi n B v L wr) (ho : Own (gi + 1) w' v' L') (hg : wr.grownBy w' v.ownBlock) : Ob w gi n B v' L' w' := by
  have hr : ∀ k, v.ownBlock = some k → gi + 1 ≤ k := fun k hk => (h.own.own.lt k hk).1
  have hlo := h.lo
  exact ⟨(hg.block _ (Array.getElem?_eq_some_iff.1 h.g).1 (fun e => by have := hr _ e.symm; omega)).trans h.g, ho, h.lo, h.old.grown hg h.old.size (fun k hk => by have := hr k hk; omega)⟩
set_option maxHeartbeats 1000000 in
theorem orbitOf_any (n : Nat) (S R : ByteArray) (x : Nat) (h1 : 1 ≤ n) (hn : n ≤ 8) (hS : S.size = n) (hR : R.size = n * n) (hx : x < n) (w : World) :
    Calls Tryd.prog 28 #[strV n S R, .int .i64 (x : Int)] w (ListO (orbL n (orbB n x (Gs.shapes (stOf n S R) (stOf n S R))) n) w) := by
  have HES := Lib.hid (fun w0 kt caps T J tl hj => eachShape_any w0 n S R S R kt caps true T J hn hS hR hS hR tl hj)
  have HMK := Lib.hid (fun w => make_bools n h1 hn w)
  obtain ⟨B, hB⟩ : ∃ B, orbB n x (Gs.shapes (stOf n S R) (stOf n S R)) = B := ⟨_, rfl⟩
  have HBE := Lib.hid hB
  have hBl : B.length = n := by rw [← hB, orbB_len]
  rw [hB]
  have HB : Hid (Below w.heap.size w (boxS w n S R) ∧ SBlk (boxS w n S R) w.heap.size n S R ∧ (boxS w n S R).heap.size = w.heap.size + 1) := ⟨boxS_below _ _ _ _, boxS_SBlk _ _ _ _, boxS_size _ _ _ _⟩
  obtain ⟨W, hW⟩ : ∃ W, (boxS w n S R).alloc (.cells #[.int .i64 (x : Int)] 3) = W := ⟨_, rfl⟩
  have HX : Hid (Below w.heap.size w W ∧ SBlk W w.heap.size n S R ∧ W.heap.size = w.heap.size + 2 ∧ W.heap[w.heap.size + 1]? = some (.cells #[.int .i64 (x : Int)] 3 (0, 0))) := by
    rw [← hW]
    refine ⟨HB.out.1.alloc (by rw [HB.out.2.2]; omega) _, HB.out.2.1.below ((Below.refl _ _).alloc (Nat.le_refl _) _) (by rw [HB.out.2.2]; omega), by simp [HB.out.2.2], ?_⟩
    rw [← HB.out.2.2]
    exact heap_alloc_new _ _
  unfold boxS at hW
  have HW := Lib.hid hW
  clear hW HB hB
  unfold strV at HES
  unfold strV
  go_enter Tryd.func28, Tryd.ntmps28
  go_upto_region 1 with fail
  rw [HW.out]
  obtain ⟨c0, c1, c2, f0, f1, f2, hl⟩ := HX.out.2.1.cells
  have hmk := HMK.out W
  have hW3 : W.heap.size = w.heap.size + 2 := HX.out.2.2.1
  obtain ⟨W2, hW2⟩ : ∃ W2, (W.alloc (.cells (boolC (List.replicate n false)) 4)).alloc (.cells #[.slice (some ⟨W.heap.size, 0, none⟩) n n] 60) = W2 := ⟨_, rfl⟩
  have HW2 := Lib.hid hW2
  have HY : Hid (Below w.heap.size w W2 ∧ SBlk W2 w.heap.size n S R ∧ W2.heap.size = w.heap.size + 4 ∧ OrbJ (w.heap.size + 3) (w.heap.size + 1) (w.heap.size + 2) n x [] W2) := by
    rw [← hW2]
    have hb : Below W.heap.size W ((W.alloc (.cells (boolC (List.replicate n false)) 4)).alloc (.cells #[.slice (some ⟨W.heap.size, 0, none⟩) n n] 60)) := ((Below.refl _ _).alloc (Nat.le_refl _) _).alloc (by simp) _
    refine ⟨HX.out.1.trans (hb.mono (by omega)), HX.out.2.1.below hb (by omega), by simp; omega, ?_, ?_, ?_⟩
    · have := heap_alloc_new (W.alloc (.cells (boolC (List.replicate n false)) 4)) (.cells #[.slice (some ⟨W.heap.size, 0, none⟩) n n] 60)
      have e : (W.alloc (.cells (boolC (List.replicate n false)) 4)).heap.size = w.heap.size + 3 := by simp; omega
      rw [e] at this
      rw [hW3] at this ⊢
      exact this
    · exact (hb.block _ (by omega)).trans HX.out.2.2.2
    · rw [Below.heap_alloc _ _ _ (by simp; omega), ← hW3]
      exact heap_alloc_new W _
  have HCC := Lib.hid (HES.out W2 _ _ _ _ (orb_teller n x W2.heap.size (w.heap.size + 3) (w.heap.size + 1) (w.heap.size + 2) (by have := HY.out.2.2.1; omega) (by have := HY.out.2.2.1; omega) (by have := HY.out.2.2.1; omega) (by omega) (by omega) hx) HY.out.2.2.2)
  clear hW2 hW3
  go_upto_region 2 with fail
  rw [HW2.out, HX.out.2.2.1, show w.heap.size + 2 + 1 = w.heap.size + 3 from rfl]
  clear c0 c1 c2 f0 f1 f2 hl hmk
  obtain ⟨c0, c1, c2, f0, f1, f2, hl⟩ := HY.out.2.1.cells
  go_wp2_with fail
  refine HCC.out.mono ?_; rintro e w3 ⟨⟨v, rfl⟩, hJ, hoff⟩
  have hJ2 : OrbJ (w.heap.size + 3) (w.heap.size + 1) (w.heap.size + 2) n x (Gs.shapes (stOf n S R) (stOf n S R)) w3 := hJ
  have hg := hJ2.g
  rw [HBE.out] at hg
  have hs3 := (cell_of hJ2.i).2.2
  obtain ⟨d0, _, _⟩ := cell_of hJ2.i
  have HP0 : Hid (Ob w (w.heap.size + 2) n B (.slice (some ⟨w3.heap.size, 0, none⟩) 0 0) (orbL n B 0) (w3.alloc (.cells #[] 3))) :=
    ⟨(Below.heap_alloc _ _ _ (by omega)).trans hg, Own.lit0 _ _ (by omega), by omega, ((HY.out.1.trans (hoff.below (by have := HY.out.2.2.1; omega) (fun b hb => by omega))).alloc (by omega) _)⟩
  have d1 : (w3.alloc (.cells #[] 3)).cell? ⟨w.heap.size + 3, 0, none⟩ = some (.slice (some ⟨w.heap.size + 2, 0, none⟩) n n) := by
    rw [← d0]
    exact World.cell?_of_block (Below.heap_alloc _ _ _ (by simp; omega))
  clear hJ hJ2 hoff hg d0 c0 c1 c2 f0 f1 f2 hl HCC HY HX
  go_wp2_with fail
  go_loopw [19, 6, 7, 8] (fun q o _ _ wr => ∃ k : Nat, k ≤ n ∧ q = .int .i64 (k : Int) ∧ Hid (Ob w (w.heap.size + 2) n B o (orbL n B k) wr)) (fun q _ _ _ _ => n - (intOf q).toNat)
  case atStart => exact ⟨0, by omega, rfl, HP0⟩
  case round =>
    clear HP0 d1
    obtain ⟨k, hk, rfl, HP⟩ := hrel
    by_cases hlt : k < n
    · have hkI : (k : Int) < (n : Int) := by omega
      have hbc := (boolC_cell HP.out.g k (by omega)).1
      have HST := Lib.hid (orbL_succ n B k)
      obtain ⟨bk, hbk⟩ : ∃ bk, B.getD k false = bk := ⟨_, rfl⟩
      rw [hbk] at hbc HST
      clear hbk
      cases bk
      · have HNO : Hid (orbL n B (k + 1) = orbL n B k) := by show _ = _; rw [HST.out, if_neg (by decide)]
        go_wp2_with fail
        go_roundw
        case rel => exact ⟨k + 1, by omega, by go_num, by rw [HNO.out]; exact HP.out⟩
        case measure => simp [intOf]; omega
      · have HYES : Hid (orbL n B (k + 1) = orbL n B k ++ [k]) := by show _ = _; rw [HST.out, if_pos rfl]
        have HLL : Hid ((orbL n B k).length ≤ 2000000) := by have := orbL_len n B k; show _ ≤ _; omega
        go_wp2_with (first | (at_builtin; refine wpList_own1 HP.out.own HLL.out rfl (.tmp 25) (.tmp 27) rfl k _ rfl rfl rfl ?_; intro v' w' ho hg; have HP9 := Lib.hid (HP.out.push ho hg); clear ho hg) | fail)
        go_roundw
        case rel => exact ⟨k + 1, by omega, by go_num, by rw [HYES.out]; exact HP9.out⟩
        case measure => simp [intOf]; omega
    · obtain rfl : k = n := by omega
      have HF : Hid (ListO (orbL k B k) w (.returned u6) wr) := ⟨_, rfl, HP.out.own.monoN (by omega), HP.out.old⟩
      go_wp2_with fail
      go_ret
      exact HF.out
theorem implOrbitOf_any (n : Nat) (S R : ByteArray) (x : Nat) (hv : validB n S R = true) (hx : x < n) (w : World) :
    Calls Tryd.prog 10 #[strV n S R, .int .i64 (x : Int)] w (ListO (orbL n (orbB n x (Gs.shapes (stOf n S R) (stOf n S R))) n) w) := by
  obtain ⟨h1, h8, hS, hR, _, _⟩ := valid_is hv
  have HH := Lib.hid (fun w => hasElement_in n S R x hv hx w)
  have HI := Lib.hid (fun w => orbitOf_any n S R x h1 h8 hS hR hx w)
  have HB : Hid (SBlk (boxS w n S R) w.heap.size n S R ∧ Below w.heap.size w (boxS w n S R)) := ⟨boxS_SBlk _ _ _ _, boxS_below _ _ _ _⟩
  unfold boxS at HB
  generalize orbL n (orbB n x (Gs.shapes (stOf n S R) (stOf n S R))) n = L at *
  clear hv hS hR
  unfold strV at HH HI
  unfold strV
  go_enter Tryd.func10, Tryd.ntmps10
  go_wp2_with fail
  refine (HH.out _).mono ?_; rintro e w1 ⟨rfl, hb1⟩
  have HB1 := Lib.hid (And.intro (HB.out.1.below hb1 HB.out.1.cells.2.2.2.2.2.2) (HB.out.2.trans (hb1.mono HB.out.2.size)))
  clear hb1
  obtain ⟨s0, s1, s2, _, _, _, hl⟩ := HB1.out.1.cells
  go_wp2_with fail
  refine (HI.out _).mono ?_; rintro e w2 ⟨v, rfl, ho, hb2⟩
  have HF : Hid (ListO L w (.returned v) w2) := ⟨v, rfl, ho.monoN HB1.out.2.size, HB1.out.2.trans (hb2.mono HB1.out.2.size)⟩
  clear ho hb2
  go_wp2_with fail
  go_ret
  exact HF.out
end Go.Proofs.YtnhlhjehocngcaaDoor
/- Circles, plainly: neighbours, distances, orbits, symmetries; pebbles cannot tell the elements of a structure apart that a symmetry moves. No condition. -/
namespace Go.Proofs.YtnhlhjehocngcaaDoor
open Go.RowKit
set_option linter.unusedVariables false
set_option maxRecDepth 100000

theorem oneAt_bitsC (f : Nat → Bool) (n x : Nat) (h : x < n) : oneAt (bitsOf f n) x = f x := by
  unfold oneAt bitsOf
  have e : ((List.range n).map fun i => bit (f i)).getD x 0 = bit (f x) := by simp [h]
  show (((List.range n).map fun i => bit (f i)).toArray.toList.getD x 0 == 49) = f x
  rw [List.toList_toArray, e]
  cases f x <;> rfl
theorem relAt_gridC (f : Nat → Nat → Bool) (n x y : Nat) (hx : x < n) (hy : y < n) : relAt n (gridOf f n) x y = f x y := by
  unfold relAt gridOf
  have h : (x + 1) * n ≤ n * n := Nat.mul_le_mul_right _ (by omega)
  rw [Nat.succ_mul] at h
  rw [oneAt_bitsC _ _ _ (by omega)]
  exact grid_at (r := f) hy
namespace Gs
theorem fitsI_congr {a b a' b' : St} {n : Nat} (hs : ∀ x, x < n → a.s x = a'.s x) (hr : ∀ x y, x < n → y < n → a.r x y = a'.r x y) (hs' : ∀ x, x < n → b.s x = b'.s x) (hr' : ∀ x y, x < n → y < n → b.r x y = b'.r x y) {o : List Nat} {x : Nat} (ho : ∀ z ∈ o, z < n) (hl : o.length < n) (hx : x < n) : fitsI a b o x = fitsI a' b' o x := by
  have hk : ∀ k, k < o.length → o.getD k 0 < n := fun k hk => by
    rw [List.getD_eq_getElem?_getD, List.getElem?_eq_getElem hk]
    exact ho _ (List.getElem_mem _)
  rw [Bool.eq_iff_iff, fitsI_iff, fitsI_iff, hs x hx, hs' _ hl, hr x x hx hx, hr' _ _ hl hl]
  constructor
  · rintro ⟨h1, h2, h3⟩
    refine ⟨h1, h2, fun k h => ?_⟩
    rw [← hr x _ hx (hk k h), ← hr' _ k hl (by omega), ← hr _ x (hk k h) hx, ← hr' k _ (by omega) hl]
    exact h3 k h
  · rintro ⟨h1, h2, h3⟩
    refine ⟨h1, h2, fun k h => ?_⟩
    rw [hr x _ hx (hk k h), hr' _ k hl (by omega), hr _ x (hk k h) hx, hr' k _ (by omega) hl]
    exact h3 k h
theorem flatMap_congrR {n : Nat} {f g : Nat → List (List Nat)} (h : ∀ x, x < n → f x = g x) : (List.range n).flatMap f = (List.range n).flatMap g := by
  have : ∀ l : List Nat, (∀ x ∈ l, x < n) → l.flatMap f = l.flatMap g := by
    intro l
    induction l with
    | nil => intro _; rfl
    | cons a l ih =>
      intro hl
      rw [List.flatMap_cons, List.flatMap_cons, h a (hl a (by simp)), ih (fun x hx => hl x (by simp [hx]))]
  exact this _ fun x hx => List.mem_range.1 hx
theorem shapesF_congr {a b a' b' : St} {n : Nat} (hn : a.n = n) (hn' : a'.n = n) (hs : ∀ x, x < n → a.s x = a'.s x) (hr : ∀ x y, x < n → y < n → a.r x y = a'.r x y) (hs' : ∀ x, x < n → b.s x = b'.s x) (hr' : ∀ x y, x < n → y < n → b.r x y = b'.r x y) : ∀ (k : Nat) (o : List Nat), (∀ z ∈ o, z < n) → o.length + k ≤ n → shapesF a b k o = shapesF a' b' k o
  | 0, o, _, _ => rfl
  | k + 1, o, ho, hl => by
    unfold shapesF
    rw [hn, hn']
    apply flatMap_congrR
    intro x hx
    rw [fitsI_congr hs hr hs' hr' ho (by omega) hx, shapesF_congr hn hn' hs hr hs' hr' k (o ++ [x]) (fun z hz => by
      rcases List.mem_append.1 hz with hz | hz
      · exact ho z hz
      · rw [List.mem_singleton.1 hz]; exact hx) (by rw [List.length_append, List.length_singleton]; omega)]
end Gs
/-- The circle's structure, plainly. -/
def cirSt (n : Nat) : Gs.St := ⟨n, fun _ => false, nextB n⟩
def cirS (n : Nat) : ByteArray := bitsOf (fun _ => false) n
def cirR (n : Nat) : ByteArray := gridOf (nextB n) n
theorem cir_s {n x : Nat} (hx : x < n) : (stOf n (cirS n) (cirR n)).s x = false := oneAt_bitsC _ _ _ hx
theorem cir_r {n x y : Nat} (hx : x < n) (hy : y < n) : (stOf n (cirS n) (cirR n)).r x y = nextB n x y := relAt_gridC _ _ _ _ hx hy
theorem cir_shapes (n : Nat) : Gs.shapes (stOf n (cirS n) (cirR n)) (stOf n (cirS n) (cirR n)) = Gs.shapes (cirSt n) (cirSt n) :=
  Gs.shapesF_congr (n := n) rfl rfl (fun x hx => cir_s hx) (fun x y hx hy => cir_r hx hy) (fun x hx => cir_s hx) (fun x y hx hy => cir_r hx hy) n [] (by simp) (by simp)
def cirN (n x : Nat) : List Nat := (List.range n).filter fun y => decide (y ≠ x) && (nextB n x y || nextB n y x)
theorem cir_near {n x : Nat} (hx : x < n) : nearL n (cirR n) x n = cirN n x := by
  unfold nearL cirN
  apply List.filter_congr
  intro y hy
  have hy := List.mem_range.1 hy
  unfold nearB
  have h1 : relAt n (cirR n) x y = nextB n x y := relAt_gridC _ _ _ _ hx hy
  have h2 : relAt n (cirR n) y x = nextB n y x := relAt_gridC _ _ _ _ hy hx
  rw [h1, h2]
theorem bfsIn_lt {n v : Nat} : ∀ (ys : List Nat) (d : List Int) (q : List Nat), (∀ y ∈ ys, y < n) → (∀ y ∈ q, y < n) → ∀ y ∈ (bfsIn d q v ys).2, y < n
  | [], d, q, _, hq => hq
  | y :: ys, d, q, hy, hq => by
    unfold bfsIn
    split
    · exact bfsIn_lt ys _ _ (fun z hz => hy z (by simp [hz])) (fun z hz => by
        rcases List.mem_append.1 hz with hz | hz
        · exact hq z hz
        · rw [List.mem_singleton.1 hz]; exact hy y (by simp))
    · exact bfsIn_lt ys _ _ (fun z hz => hy z (by simp [hz])) hq
theorem bfs_congr {n : Nat} {nb nb' : Nat → List Nat} (h : ∀ v, v < n → nb v = nb' v) (hl : ∀ v, v < n → ∀ y ∈ nb v, y < n) : ∀ (f : Nat) (d : List Int) (q : List Nat), (∀ y ∈ q, y < n) → bfs nb f d q = bfs nb' f d q
  | 0, d, q, _ => by cases q <;> rfl
  | f + 1, d, [], _ => rfl
  | f + 1, d, v :: q, hq => by
    have hv := hq v (by simp)
    unfold bfs
    rw [← h v hv]
    exact bfs_congr h hl f _ _ (bfsIn_lt _ _ _ (hl v hv) (fun y hy => hq y (by simp [hy])))
def cirD (n x : Nat) : List Int := bfs (cirN n) (n + 1) ((List.replicate n (-1)).set x 0) [x]
theorem cir_dist {n x : Nat} (hx : x < n) : distL n (cirR n) x = cirD n x := by
  unfold distL cirD
  exact bfs_congr (n := n) (fun v hv => cir_near hv) (fun v hv y hy => nearL_lt hy) _ _ _ (fun y hy => by rw [List.mem_singleton.1 hy]; exact hx)
theorem cir_facts : ∀ n, n < 9 → 3 ≤ n → (∀ x, x < n → (cirN n x).length = 2 ∧ (cirD n 0).getD x 0 = ((min x (n - x) : Nat) : Int) ∧ (orbL n (orbB n x (Gs.shapes (cirSt n) (cirSt n))) n).length = n) ∧ (cirD n 0).length = n ∧ (Gs.shapes (cirSt n) (cirSt n)).length = 2 * n := by
  decide +kernel
theorem cir_moves : ∀ n, n < 9 → 3 ≤ n → ∀ x, x < n → ∀ y, y < n → ∃ o ∈ Gs.shapes (cirSt n) (cirSt n), o.getD x 0 = y := by
  decide +kernel
theorem cir_turn : ∀ n, n < 9 → ∀ x, x < n → ∀ y, y < n → nextB n y x = nextB n x y := by decide +kernel
/-- Pebbles that a symmetry moves. -/
def mvI (o : List Nat) (x : Int) : Int := if 0 ≤ x then ((o.getD x.toNat 0 : Nat) : Int) else x
theorem layN_mv (o : List Nat) : ∀ L : List Int, layN (L.map (mvI o)) = (layN L).map fun x => o.getD x 0
  | [] => rfl
  | x :: L => by
    rw [List.map_cons, layN_cons, layN_cons, layN_mv o L]
    unfold mvI
    by_cases h : 0 ≤ x
    · rw [if_pos h, if_pos (by omega), if_pos h, List.map_cons]
      rfl
    · rw [if_neg h, if_neg h, if_neg h]
theorem still_mv {a : Gs.St} {o : List Nat} (ho : Gs.Turns a a o) (hl : o.length = a.n) {la : List Nat} (has : ∀ z ∈ la, z < a.n) {x : Nat} (hx : x < a.n) : Gs.still a la a (la.map fun x => o.getD x 0) x (o.getD x 0) = true := by
  unfold Gs.still
  rw [ho.s x (by omega), ho.r x x (by omega) (by omega)]
  simp only [beq_self_eq_true, Bool.true_and, List.all_eq_true]
  intro p hp
  obtain ⟨i, hi, rfl⟩ := List.mem_iff_getElem.1 hp
  rw [List.getElem_zip]
  have hi1 : i < la.length := by rw [List.length_zip] at hi; omega
  obtain ⟨z, hz⟩ : ∃ z, la[i] = z := ⟨_, rfl⟩
  have hzn : z < a.n := by rw [← hz]; exact has _ (List.getElem_mem _)
  simp only [List.getElem_map, hz]
  rw [ho.r z x (by omega) (by omega), ho.r x z (by omega) (by omega)]
  simp only [beq_self_eq_true, Bool.and_true]
  have hd := ho.nodup
  rw [beq_iff_eq, decide_eq_decide]
  constructor
  · rintro rfl; rfl
  · intro e
    rw [List.getD_eq_getElem?_getD, List.getElem?_eq_getElem (show z < o.length by omega), List.getD_eq_getElem?_getD, List.getElem?_eq_getElem (show x < o.length by omega)] at e
    exact (List.getElem_inj hd).1 e
theorem same_mv {a : Gs.St} {o : List Nat} (ho : Gs.Turns a a o) (hl : o.length = a.n) {la : List Nat} (has : ∀ z ∈ la, z < a.n) : Gs.same a la a (la.map fun x => o.getD x 0) = true := by
  unfold Gs.same
  rw [List.all_eq_true]
  intro i hi
  have hi := List.mem_range.1 hi
  have e : (la.map fun x => o.getD x 0).getD i 0 = o.getD (la.getD i 0) 0 := by
    rw [List.getD_eq_getElem?_getD, List.getElem?_map, List.getElem?_eq_getElem hi, List.getD_eq_getElem?_getD (l := la), List.getElem?_eq_getElem hi]
    rfl
  rw [e, ← List.map_take]
  refine still_mv ho hl (fun z hz => has z (List.mem_of_mem_take hz)) ?_
  rw [List.getD_eq_getElem?_getD, List.getElem?_eq_getElem hi]
  exact has _ (List.getElem_mem _)
theorem onto {n : Nat} {o : List Nat} (hd : o.Nodup) (hlt : ∀ x ∈ o, x < n) (hl : o.length = n) {y : Nat} (hy : y < n) : ∃ x, x < n ∧ o.getD x 0 = y := by
  have hm : y ∈ o := Gs.nodup_all hd hl hlt hy
  obtain ⟨i, hi, rfl⟩ := List.mem_iff_getElem.1 hm
  exact ⟨i, by omega, by rw [List.getD_eq_getElem?_getD, List.getElem?_eq_getElem hi]; rfl⟩
theorem pwB_mv {a : Gs.St} {o : List Nat} (ho : Gs.Turns a a o) (hl : o.length = a.n) : ∀ (t : Nat) (L : List Int), (∀ x ∈ L, -1 ≤ x ∧ x < (a.n : Int)) → pwB a a a.n a.n t L (L.map (mvI o)) = true
  | 0, L, hL => by
    unfold pwB
    rw [layN_mv]
    exact same_mv ho hl (layN_lt hL)
  | t + 1, L, hL => by
    unfold pwB
    rw [layN_mv, same_mv ho hl (layN_lt hL), Bool.true_and, List.all_eq_true]
    intro i hi
    have hi := List.mem_range.1 hi
    have hL2 : ∀ x : Nat, x < a.n → ∀ z ∈ L.set i (x : Int), -1 ≤ z ∧ z < (a.n : Int) := fun x hx z hz => by
      rcases mem_setI hz with hz | rfl
      · exact hL z hz
      · omega
    have hst : ∀ x : Nat, (L.map (mvI o)).set i ((o.getD x 0 : Nat) : Int) = (L.set i (x : Int)).map (mvI o) := fun x => by
      rw [List.map_set]
      congr 1
    have holt : ∀ x, x < a.n → o.getD x 0 < a.n := fun x hx => by
      rw [List.getD_eq_getElem?_getD, List.getElem?_eq_getElem (show x < o.length by omega)]
      exact ho.lt _ (List.getElem_mem _)
    rw [ansF_iff]
    refine ⟨fun x hx => ⟨o.getD x 0, holt x hx, ?_⟩, fun y hy => ?_⟩
    · rw [hst]; exact pwB_mv ho hl t _ (hL2 x hx)
    · obtain ⟨x, hx, rfl⟩ := onto ho.nodup ho.lt hl hy
      exact ⟨x, hx, by rw [hst]; exact pwB_mv ho hl t _ (hL2 x hx)⟩
end Go.Proofs.YtnhlhjehocngcaaDoor
/- The walk of distancesFrom and DistanceOf. Conditions: the structure is valid, the numbers are its elements. -/
namespace Go.Proofs.YtnhlhjehocngcaaDoor
open Go.RowKit
set_option linter.unusedVariables false
set_option maxRecDepth 100000

set_option maxHeartbeats 2000000 in
theorem distancesFrom_any (n : Nat) (S R : ByteArray) (x : Nat) (hn : n ≤ 8) (hR : R.size = n * n) (hx : x < n) (w : World) :
    Calls Tryd.prog 27 #[strV n S R, .int .i64 (x : Int)] w (ListI (distL n R x) w) := by
  have HNR := Lib.hid (fun y w hy => implnearOf_any n S R y hn hR hy w)
  have HBE := Lib.hid (fun w => besides_any n (by omega) w)
  have HB : Hid (Below w.heap.size w (boxS w n S R) ∧ SBlk (boxS w n S R) w.heap.size n S R ∧ (boxS w n S R).heap.size = w.heap.size + 1) := ⟨boxS_below _ _ _ _, boxS_SBlk _ _ _ _, boxS_size _ _ _ _⟩
  obtain ⟨W, hW⟩ : ∃ W, boxS w n S R = W := ⟨_, rfl⟩
  rw [hW] at HB
  unfold boxS at hW
  have HW := Lib.hid hW
  clear hW hR
  have HNB : Hid (∀ v y, y ∈ nearL n R v n → y < n) := fun v y hy => nearL_lt hy
  generalize hdl : distL n R x = DL
  have HDL := Lib.hid hdl
  clear hdl
  unfold strV at HNR
  unfold strV
  go_enter Tryd.func27, Tryd.ntmps27
  go_upto_region 1 with fail
  rw [HW.out]
  obtain ⟨c0, c1, c2, f0, f1, f2, hl⟩ := HB.out.2.1.cells
  go_wp2_with fail
  refine (HBE.out _).mono ?_; rintro e w2 ⟨v, rfl, ho, hb2⟩
  have HQ0 : Hid (DQ n ((List.replicate n (-1)).set x 0) [x] ∧ bfs (fun v => nearL n R v n) (n + 1) ((List.replicate n (-1)).set x 0) [x] = DL ∧ negD ((List.replicate n (-1)).set x 0) + 1 ≤ n + 1 ∧ n + 1 ≤ 9) := ⟨(DQ.start hx).1, HDL.out, by have := (DQ.start hx).2; omega, by omega⟩
  have H0 : ∃ g cap, v = .slice (some ⟨g, 0, none⟩) n cap ∧ n ≤ cap ∧ cap ≤ maxLen ∧ w2.cell? ⟨g, x, none⟩ = some (.int .i64 (-1)) ∧ w2.frozen? ⟨g, x, none⟩ = false ∧
      Hid (Dst w n S R g cap ((List.replicate n (-1)).set x 0) (.slice (some ⟨w2.heap.size, 0, none⟩) 1 1) [x] ((w2.setCell ⟨g, x, none⟩ (.int .i64 0)).alloc (.cells #[.int .i64 (x : Int)] 3))) := by
    obtain ⟨g, cap, hv, h1, h2, h3, h4, h5⟩ := ho.cells
    have ho' := ho
    rw [hv, List.length_replicate] at ho'
    rw [List.length_replicate] at hv h3 h5
    have hz := HB.out.2.2
    refine ⟨g, cap, hv, h3, h4, by rw [h5 x hx, getD_rep, if_pos hx], ?_, ?_⟩
    · have := ho'.own
      rw [List.length_replicate] at this
      exact this.frozenAt x
    · refine ⟨?_, ?_, ?_, ?_, ?_⟩
      · exact ((HB.out.2.1.below hb2 (by omega)).far (by simp; omega) _).below ((Below.refl _ _).alloc (Nat.le_refl _) _) (by simp; omega)
      · refine OwnI.below (w := w2.setCell ⟨g, x, none⟩ (.int .i64 0)) ?_ ((Below.refl _ _).alloc (Nat.le_refl _) _)
        have h6 := ho'.own
        rw [List.length_replicate] at h6
        refine ⟨?_, by simp, by simp; omega⟩
        rw [List.length_set, List.map_set, List.length_replicate, ← hz]
        exact (h6.stored x (.int .i64 0)).1
      · have := OwnQ.one (w.heap.size + 1) (w2.setCell ⟨g, x, none⟩ (.int .i64 0)) (by simp; omega) x _ rfl
        simpa using this
      · simp [Value.ownBlock]; omega
      · exact ((HB.out.1.trans (hb2.mono (by omega))).setCell (by simp; omega) _).alloc (by simp; omega) _
  clear ho hb2 HB c0 c1 c2 f0 f1 f2 hl HDL
  obtain ⟨g, cap, rfl, hc1, hc2, hcx, hfx, HP0⟩ := H0
  go_wp2_with fail
  go_loopw [6, 7, 9] (fun q _ _ wr => ∃ (D : List Int) (Q : List Nat) (f : Nat), Hid (Dst w n S R g cap D q Q wr) ∧ Hid (DQ n D Q ∧ bfs (fun v => nearL n R v n) f D Q = DL ∧ negD D + Q.length ≤ f ∧ f ≤ 9)) (fun q _ _ wr => msr g n q wr)
  case atStart => exact ⟨_, _, _, HP0, HQ0⟩
  case round =>
    clear HP0 HQ0 hcx hfx
    obtain ⟨D, Q, f, HP, HQ⟩ := hrel
    match Q, HP, HQ with
    | [], HP, HQ =>
      have HF : Hid (ListI DL w (.returned (.slice (some ⟨g, 0, none⟩) n cap)) wr) := ⟨_, rfl, by
        have e := HQ.out.2.1
        rw [bfs_nil] at e
        rw [← e]; exact (HP.out.out).mono (by omega), HP.out.old⟩
      have HV : Hid (∃ g o cap, u6 = .slice (some ⟨g, o, none⟩) 0 cap) := by
        obtain ⟨g, o, cap, e, _⟩ := HP.out.que.view
        exact ⟨g, o, cap, e⟩
      obtain ⟨g', o', cap', rfl⟩ := HV.out
      go_wp2_with fail
      go_ret
      exact HF.out
    | v0 :: Q', HP, HQ =>
      have HV : Hid (∃ g o cap, u6 = .slice (some ⟨g, o, none⟩) (Q'.length + 1) cap ∧ wr.cell? ⟨g, o, none⟩ = some (.int .i64 (v0 : Int))) := by
        obtain ⟨g, o, cap, e, _, _, _, _, h6, _⟩ := HP.out.que.view
        exact ⟨g, o, cap, e, by have := h6 0 (by simp); simpa using this⟩
      have hv0 : v0 < n := HQ.out.1.q v0 (by simp)
      have HT : Hid (∃ v', OwnQ (w.heap.size + 1) wr v' Q' ∧ v'.ownBlock = u6.ownBlock ∧ ∀ wx, (Instr.slice 28 u6 (some (.int .i64 1)) none none).run Tryd.prog wx = .ok v' wx) := HP.out.que.tail
      have HM := Lib.hid (HP.out.msr)
      obtain ⟨q2, ho2, hob, hsl⟩ := HT.out
      have HP1 := Lib.hid (HP.out.pop ho2 hob)
      obtain ⟨gq, oq, cq, rfl, hcq⟩ := HV.out
      clear ho2 hob HV HT
      have hQI : (0 : Int) < ((Q'.length + 1 : Nat) : Int) := by omega
      obtain ⟨c0, c1, c2, f0, f1, f2, hl⟩ := HP1.out.a.cells
      have HN1 := Lib.hid (fun w => HNR.out v0 w hv0)
      go_wp2_with fail
      refine (HN1.out _).mono ?_; rintro e w2 ⟨nv, rfl, hon, hbn⟩
      have HL : Hid ((nearL n R v0 n).length ≤ 8 ∧ ∀ y ∈ nearL n R v0 n, y < n) := ⟨by have := nearL_len n R v0 n; omega, fun y hy => HNB.out v0 y hy⟩
      have HK : Hid (NbAt w2 nv (nearL n R v0 n) g q2) := by
        refine ⟨hon.nums, fun k hk => ?_⟩
        obtain ⟨k', ck, ek, h1, h2, _⟩ := hon.cells
        rw [ek] at hk
        have e : k' = k := by simpa [Value.ownBlock] using hk
        obtain ⟨kq, eq, hq1, hq2⟩ := HP1.out.que.block
        have := HP1.out.gl
        exact ⟨by omega, by rw [eq]; intro e2; injection e2 with e2; omega, by omega⟩
      have HP2 := Lib.hid (HP1.out.below hbn)
      have HQ2 : Hid (DQ n D Q' ∧ (∃ f', bfs (fun v => nearL n R v n) f' (bfsIn D Q' v0 ((nearL n R v0 n).drop 0)).1 (bfsIn D Q' v0 ((nearL n R v0 n).drop 0)).2 = DL ∧ negD D + Q'.length ≤ f' ∧ f' ≤ 9) ∧ negD D + Q'.length + 1 = msr g n (.slice (some ⟨gq, oq, none⟩) (Q'.length + 1) cq) wr) := by
        refine ⟨⟨HQ.out.1.len, HQ.out.1.low, HQ.out.1.top, fun y hy => HQ.out.1.q y (by simp [hy])⟩, ?_, by rw [HM.out]; simp; omega⟩
        obtain ⟨_, h2, h3, h9⟩ := HQ.out
        simp at h3
        match f, h2, h3, h9 with
        | f + 1, h2, h3, h9 => exact ⟨f, h2, by omega, by omega⟩
      clear hon hbn HP1 HP HQ HM c0 c1 c2 f0 f1 f2 hl hcq hsl HN1
      generalize nearL n R v0 n = NL at *
      obtain ⟨na, nc, rfl, hn1, hn2, hnc⟩ := HK.out.at_.view
      clear hnc
      go_wp2_with fail
      obtain ⟨wo, hwo⟩ : ∃ wo, wo = wr := ⟨_, rfl⟩
      subst hwo
      go_loopw [30, 6, 9] (fun p q _ wq => ∃ (k : Nat) (D2 : List Int) (Q2 : List Nat), k ≤ NL.length ∧ p = .int .i64 (k : Int) ∧ Hid (Dst w n S R g cap D2 q Q2 wq) ∧ Hid (NbAt wq (.slice na NL.length nc) NL g q) ∧ Hid (DQ n D2 Q2 ∧ (∃ f', bfs (fun v => nearL n R v n) f' (bfsIn D2 Q2 v0 (NL.drop k)).1 (bfsIn D2 Q2 v0 (NL.drop k)).2 = DL ∧ negD D2 + Q2.length ≤ f' ∧ f' ≤ 9) ∧ negD D2 + Q2.length + 1 = msr g n (.slice (some ⟨gq, oq, none⟩) (Q'.length + 1) cq) wo)) (fun p _ _ _ => NL.length - (intOf p).toNat)
      case atStart => exact ⟨0, _, _, by omega, rfl, HP2, HK, HQ2⟩
      case round =>
        clear HP2 HK HQ2
        obtain ⟨k, D2, Q2, hk, rfl, HP, HK, HQ⟩ := hrel
        by_cases hlt : k < NL.length
        · have hkI : (k : Int) < (NL.length : Int) := by omega
          have hl8 : NL.length ≤ 8 := HL.out.1
          obtain ⟨y, hy⟩ : ∃ y, NL.getD k 0 = y := ⟨_, rfl⟩
          have hyn : y < n := HL.out.2 y (by rw [← hy, List.getD_eq_getElem?_getD, List.getElem?_eq_getElem hlt]; exact List.getElem_mem hlt)
          have HD : Hid (NL.drop k = y :: NL.drop (k + 1)) := by
            show _ = _
            rw [List.drop_eq_getElem_cons hlt, ← hy, List.getD_eq_getElem?_getD, List.getElem?_eq_getElem hlt]
            rfl
          have HC : Hid (∃ gn on, na = some ⟨gn, on, none⟩ ∧ wr.cell? ⟨gn, on + k, none⟩ = some (.int .i64 (y : Int))) := by
            obtain ⟨a, c, e, _, _, h⟩ := HK.out.at_.view
            injection e with e1 e2 e3
            obtain ⟨gn, on, e4, _, h5⟩ := h (by omega)
            exact ⟨gn, on, e1.trans e4, by rw [h5 k hlt, hy]⟩
          obtain ⟨gn, on, rfl, hcn⟩ := HC.out
          have hcy := (HP.out.cell hyn).1
          have hfy := (HP.out.cell hyn).2
          have hcv := (HP.out.cell hv0).1
          have hle8 := HQ.out.1.top v0
          have hlow := HQ.out.1.low v0
          obtain ⟨dv, hdv⟩ : ∃ z, D2.getD v0 0 = z := ⟨_, rfl⟩
          obtain ⟨dy, hdy⟩ : ∃ z, D2.getD y 0 = z := ⟨_, rfl⟩
          rw [hdv] at hcv hle8 hlow
          rw [hdy] at hcy
          by_cases hneg : dy < 0
          · have HPS := Lib.hid (HP.out.set y (dv + 1))
            have HKS : Hid (NbAt (wr.setCell ⟨g, y, none⟩ (.int .i64 (dv + 1))) (.slice (some ⟨gn, on, none⟩) NL.length nc) NL g u6) := HK.out.keep (fun k' hk' => Below.heap_setCell _ _ _ _ (HK.out.ne k' hk').1) (by simp) (.inl rfl)
            have HQS : Hid ((DQ n (D2.set y (dv + 1)) (Q2 ++ [y]) ∧ (∃ f', bfs (fun v => nearL n R v n) f' (bfsIn (D2.set y (dv + 1)) (Q2 ++ [y]) v0 (NL.drop (k + 1))).1 (bfsIn (D2.set y (dv + 1)) (Q2 ++ [y]) v0 (NL.drop (k + 1))).2 = DL ∧ negD (D2.set y (dv + 1)) + (Q2 ++ [y]).length ≤ f' ∧ f' ≤ 9) ∧ negD (D2.set y (dv + 1)) + (Q2 ++ [y]).length + 1 = msr g n (.slice (some ⟨gq, oq, none⟩) (Q'.length + 1) cq) wo)) := by
              obtain ⟨h1, h2⟩ := HQ.out.1.push v0 y hyn (by rw [hdy]; exact hneg)
              obtain ⟨_, ⟨f', h3, h4, h9⟩, h5⟩ := HQ.out
              rw [HD.out] at h3
              unfold bfsIn at h3
              rw [hdy, if_pos hneg] at h3
              rw [hdv] at h1 h2 h3
              refine ⟨h1, ⟨f', h3, ?_, h9⟩, ?_⟩
              · simp; omega
              · simp; omega
            have HLQ : Hid (Q2.length ≤ 2000000 ∧ w.heap.size + 1 ≤ (wr.setCell ⟨g, y, none⟩ (.int .i64 (dv + 1))).heap.size) := by
              obtain ⟨h1, ⟨f', h3, h4, h9⟩, h5⟩ := HQ.out
              have := HP.out.gl
              exact ⟨by omega, by simp; omega⟩
            clear hdv hdy HD
            go_wp2_with (first | (at_builtin; refine wpList_ownQ1 HPS.out.que HLQ.out.1 HLQ.out.2 rfl (.tmp 47) (.tmp 49) rfl y wr.heap.size (by simp) rfl rfl ?_; intro v' w' ho hg ha; have HP9 := Lib.hid (HPS.out.push ho hg ha); have HK9 := Lib.hid (And.intro hg ha); clear ho hg ha) | fail)
            have HKF : Hid (NbAt w' (.slice (some ⟨gn, on, none⟩) NL.length nc) NL g v') := HKS.out.keep (fun k' hk' => HK9.out.1.block k' (HKS.out.ne k' hk').2.2 (fun e => (HKS.out.ne k' hk').2.1 e.symm)) HK9.out.1.size HK9.out.2
            clear HK9 HKS HPS HP HK
            go_wp2_with fail
            go_roundw
            case rel => exact ⟨k + 1, _, _, by omega, by go_num, HP9, HKF, HQS⟩
            case measure => simp [intOf]; omega
          · have HQN : Hid ((DQ n D2 Q2 ∧ (∃ f', bfs (fun v => nearL n R v n) f' (bfsIn D2 Q2 v0 (NL.drop (k + 1))).1 (bfsIn D2 Q2 v0 (NL.drop (k + 1))).2 = DL ∧ negD D2 + Q2.length ≤ f' ∧ f' ≤ 9) ∧ negD D2 + Q2.length + 1 = msr g n (.slice (some ⟨gq, oq, none⟩) (Q'.length + 1) cq) wo)) := by
              obtain ⟨h1, ⟨f', h3, h4, h9⟩, h5⟩ := HQ.out
              rw [HD.out] at h3
              unfold bfsIn at h3
              rw [hdy, if_neg hneg] at h3
              exact ⟨h1, ⟨f', h3, h4, h9⟩, h5⟩
            clear hdv hdy HD
            go_wp2_with fail
            go_roundw
            case rel => exact ⟨k + 1, D2, Q2, by omega, by go_num, HP, HK, HQN⟩
            case measure => simp [intOf]; omega
        · obtain rfl : k = NL.length := by omega
          go_wp2_with fail
          go_roundw
          case rel =>
            obtain ⟨h1, ⟨f', h3, h4, h9⟩, h5⟩ := HQ.out
            rw [List.drop_length] at h3
            exact ⟨D2, Q2, f', HP, ⟨h1, h3, h4, h9⟩⟩
          case measure =>
            have h6 := HP.out.msr
            have h5 := HQ.out.2.2
            show msr g n u6 wr < msr g n (.slice (some ⟨gq, oq, none⟩) (Q'.length + 1) cq) wo
            omega
theorem implDistanceOf_any (n : Nat) (S R : ByteArray) (x y : Nat) (hv : validB n S R = true) (hx : x < n) (hy : y < n) (hl : (distL n R x).length = n) (w : World) :
    Calls Tryd.prog 9 #[strV n S R, .int .i64 (x : Int), .int .i64 (y : Int)] w fun e w' => e = .returned (.int .i64 ((distL n R x).getD y 0)) ∧ Below w.heap.size w w' := by
  obtain ⟨h1, h8, hS, hR, _, _⟩ := valid_is hv
  have HH := Lib.hid (fun w => hasElement_in n S R x hv hx w)
  have HH2 := Lib.hid (fun w => hasElement_in n S R y hv hy w)
  have HI := Lib.hid (fun w => distancesFrom_any n S R x h8 hR hx w)
  have HB : Hid (SBlk (boxS w n S R) w.heap.size n S R ∧ Below w.heap.size w (boxS w n S R)) := ⟨boxS_SBlk _ _ _ _, boxS_below _ _ _ _⟩
  unfold boxS at HB
  have HL := Lib.hid hl
  generalize distL n R x = L at *
  clear hv hS hR hl
  obtain ⟨dz, hdz⟩ : ∃ dz, L.getD y 0 = dz := ⟨_, rfl⟩
  rw [hdz]
  have HDZ := Lib.hid hdz
  clear hdz
  unfold strV at HH HH2 HI
  unfold strV
  go_enter Tryd.func9, Tryd.ntmps9
  go_wp2_with fail
  refine (HH.out _).mono ?_; rintro e w1 ⟨rfl, hb1⟩
  have HB1 := Lib.hid (And.intro (HB.out.1.below hb1 HB.out.1.cells.2.2.2.2.2.2) (HB.out.2.trans (hb1.mono HB.out.2.size)))
  clear hb1
  obtain ⟨s0, s1, s2, _, _, _, hl⟩ := HB1.out.1.cells
  go_wp2_with fail
  refine (HH2.out _).mono ?_; rintro e w2 ⟨rfl, hb1⟩
  have HB2 := Lib.hid (And.intro (HB1.out.1.below hb1 HB1.out.1.cells.2.2.2.2.2.2) (HB1.out.2.trans (hb1.mono HB1.out.2.size)))
  clear hb1 s0 s1 s2 hl
  obtain ⟨s0, s1, s2, _, _, _, hl⟩ := HB2.out.1.cells
  go_wp2_with fail
  refine (HI.out _).mono ?_; rintro e w3 ⟨v, rfl, ho, hb2⟩
  have HB3 := Lib.hid (HB2.out.2.trans (hb2.mono HB2.out.2.size))
  obtain ⟨g, cap, rfl, _, _, hc1, hc2, hc⟩ := ho.cells
  have hcy := hc y (by have := HL.out; omega)
  have hyl : y < L.length := by have := HL.out; omega
  rw [HDZ.out] at hcy
  clear ho hb2 hc
  go_wp2_with fail
  go_ret
  exact ⟨rfl, HB3.out⟩
end Go.Proofs.YtnhlhjehocngcaaDoor
/- The program's TurnStructure of a structure. Conditions: those that each states. -/
namespace Go.Proofs.YtnhlhjehocngcaaDoor
open Go.RowKit
set_option linter.unusedVariables false
set_option maxRecDepth 100000

def turnR (n : Nat) (R : ByteArray) : ByteArray := gridOf (fun x y => relAt n R y x) n
theorem turn1_any (n : Nat) (S R : ByteArray) (h8 : n ≤ 8) (hR : R.size = n * n) (b x y : Nat) (w : World) (hx : x < n) (hy : y < n) (hb : SBlk w b n S R) :
    Calls Tryd.prog 32 #[.int .i64 (x : Int), .int .i64 (y : Int), .pointer (some ⟨b, 0, none⟩)] w fun e w' => e = .returned (.bool (relAt n R y x)) ∧ Below w.heap.size w w' := by
  have HI := Lib.hid (fun w => inRel_b n S R y x w hy hx h8 hR)
  generalize relAt n R y x = r at *
  obtain ⟨s0, s1, s2, _, _, _, hl⟩ := hb.cells
  clear hR hb
  unfold strV at HI
  go_enter Tryd.func32, Tryd.ntmps32
  go_wp2_with fail
  refine (HI.out _).mono ?_; rintro e w2 ⟨rfl, hb2⟩
  have HB2 := Lib.hid hb2
  clear hb2
  go_wp2_with fail
  go_ret
  exact ⟨ret_bool (by simp), HB2.out⟩
set_option maxHeartbeats 1000000 in
theorem Turn_yes (n : Nat) (S R : ByteArray) (hv : validB n S R = true) (w : World) :
    Calls Tryd.prog 11 #[strV n S R] w fun en w' => en = .returned (.tuple #[strV n (bitsOf (oneAt S) n) (turnR n R), .bool true]) ∧ Below w.heap.size w w' := by
  obtain ⟨h1, h8, hS, hR, _, _⟩ := valid_is hv
  have HIS : Hid (∀ w, Calls Tryd.prog 29 #[strV n S R] w fun e w' => e = .returned (.bool true) ∧ Below w.heap.size w w') := fun w => by
    have := isStructure_any n S R w (by omega) (by rw [hR]; have := Nat.mul_le_mul h8 h8; omega)
    rw [hv] at this
    exact this
  have HB := Lib.hid (BoxR.first w n S R)
  have HM := Lib.hid (fun W3 k2 hk2 hr => makeStructure_set n h8 S R hS k2 #[.pointer (some ⟨w.heap.size, 0, none⟩)] (fun x y => relAt n R y x) W3 hk2 hr)
  have HRR := Lib.hid hR
  clear hv hS hR
  unfold boxS at HB
  obtain ⟨W, hW⟩ : ∃ W, (w.alloc (.cells #[.int .i64 (n : Int), .string S, .string R] 25)).alloc (.cells #[.int .i64 0, .string ⟨#[]⟩, .string ⟨#[]⟩] 25) = W := ⟨_, rfl⟩
  replace HB : Hid (BoxR w W n S R) := by rw [← hW]; exact HB.out
  have HW := Lib.hid hW
  clear hW
  unfold strV at HIS
  unfold strV
  go_enter Tryd.func11, Tryd.ntmps11
  go_upto_region 1 with fail
  rw [HW.out]
  obtain ⟨s0, s1, s2, _, _, _, hl⟩ := HB.out.a.cells
  go_wp2_with fail
  refine (HIS.out _).mono ?_; rintro _ w3 ⟨rfl, hb3⟩
  have HB3 := Lib.hid (HB.out.below hb3)
  clear hb3 s0 s1 s2 hl
  obtain ⟨s0, s1, s2, _, _, _, hl⟩ := HB3.out.a.cells
  go_wp2_with fail
  unfold strV at HM
  refine (HM.out w3 _ (fun _ _ => by kernel_rfl) (fun x y W' hx hy hb => turn1_any n S R h8 HRR.out w.heap.size x y W' hx hy (HB3.out.a.below hb HB3.out.a.cells.2.2.2.2.2.2))).mono ?_
  rintro e w7 ⟨rfl, hb7⟩
  have HB7 := Lib.hid (HB3.out.below hb7)
  clear hb7 s0 s1 s2 hl
  obtain ⟨d0, d1, d2, g0, g1, g2, hl⟩ := HB7.out.res.cells
  go_wp2_with fail
  refine bodyPost_ret (v := .tuple #[strV n (bitsOf (oneAt S) n) (turnR n R), .bool true]) ?_ rfl ⟨rfl, ?_⟩
  · exact results_str2 rfl rfl HB7.out.res.set3 rfl
  · exact HB7.out.fin _ _ _
end Go.Proofs.YtnhlhjehocngcaaDoor
namespace Go.Proofs.YtnhlhjehocngcaaDoor
open Go.RowKit
set_option linter.unusedVariables false
set_option maxRecDepth 100000

theorem rowLen32 {k : IntKind} {w : World} {a : Option Addr} {len cap : Nat} {zs : List Int} (h : IsRow k w a len cap zs) : len ≤ maxLen := by
  rcases h with ⟨_, h, _⟩ | ⟨_, _, h1, h2, _⟩
  · rw [h]; decide
  · omega
def SliceLen (l : Nat) (w : World) (e : Ending) (w' : World) : Prop := ∃ a c, e = .returned (.slice a l c) ∧ Below w.heap.size w w'
theorem listO_len {L : List Nat} {l : Nat} {w w' : World} {e : Ending} (h : ListO L w e w') (hl : L.length = l) : SliceLen l w e w' := by
  obtain ⟨v, rfl, ho, hb⟩ := h
  obtain ⟨g, cap, rfl, _⟩ := ho.cells
  subst hl
  exact ⟨_, _, rfl, hb⟩
section
variable {n : Nat} (h3 : 3 ≤ n) (h8 : n ≤ 8)
theorem cir_valid {n : Nat} (h3 : 3 ≤ n) (h8 : n ≤ 8) : validB n (cirS n) (cirR n) = true := valid_bits (by omega) h8 _ _
theorem cirNear_any {n : Nat} (h3 : 3 ≤ n) (h8 : n ≤ 8) (x : Nat) (hx : x < n) (w : World) : Calls Tryd.prog 8 #[strV n (cirS n) (cirR n), .int .i64 (x : Int)] w (SliceLen 2 w) :=
  (implNearOf_any n _ _ x (cir_valid h3 h8) hx w).mono fun e w' h => listO_len h (by rw [cir_near hx]; exact ((cir_facts n (by omega) h3).1 x hx).1)
theorem cirDist_any {n : Nat} (h3 : 3 ≤ n) (h8 : n ≤ 8) (x : Nat) (hx : x < n) (w : World) : Calls Tryd.prog 9 #[strV n (cirS n) (cirR n), .int .i64 0, .int .i64 (x : Int)] w fun e w' => e = .returned (.int .i64 ((min x (n - x) : Nat) : Int)) ∧ Below w.heap.size w w' := by
  have hd : distL n (cirR n) 0 = cirD n 0 := cir_dist (by omega)
  have hf := cir_facts n (by omega) h3
  have := implDistanceOf_any n (cirS n) (cirR n) 0 x (cir_valid h3 h8) (by omega) hx (by rw [hd]; exact hf.2.1) w
  rw [hd, (hf.1 x hx).2.1] at this
  exact this
theorem cirOrbit_any {n : Nat} (h3 : 3 ≤ n) (h8 : n ≤ 8) (x : Nat) (hx : x < n) (w : World) : Calls Tryd.prog 10 #[strV n (cirS n) (cirR n), .int .i64 (x : Int)] w (SliceLen n w) :=
  (implOrbitOf_any n _ _ x (cir_valid h3 h8) hx w).mono fun e w' h => listO_len h (by rw [cir_shapes]; exact ((cir_facts n (by omega) h3).1 x hx).2.2)
theorem bits_ext {f g : Nat → Bool} {n : Nat} (h : ∀ x, x < n → f x = g x) : bitsOf f n = bitsOf g n := by
  unfold bitsOf
  congr 2
  apply List.map_congr_left
  intro x hx
  rw [h x (List.mem_range.1 hx)]
theorem cirTurn_any {n : Nat} (h3 : 3 ≤ n) (h8 : n ≤ 8) (w : World) : Calls Tryd.prog 11 #[strV n (cirS n) (cirR n)] w fun e w' => e = .returned (.tuple #[strV n (cirS n) (cirR n), .bool true]) ∧ Below w.heap.size w w' := by
  have e1 : bitsOf (oneAt (cirS n)) n = cirS n := bits_ext fun x hx => oneAt_bitsC _ _ _ hx
  have e2 : turnR n (cirR n) = cirR n := by
    unfold turnR
    show bitsOf _ _ = bitsOf _ _
    apply bits_ext
    intro k hk
    have hn : 0 < n := by omega
    have h1 : k / n < n := by rw [Nat.div_lt_iff_lt_mul hn]; exact hk
    have h2 : k % n < n := Nat.mod_lt _ hn
    show relAt n (cirR n) (k % n) (k / n) = nextB n (k / n) (k % n)
    rw [show cirR n = gridOf (nextB n) n from rfl, relAt_gridC _ _ _ _ h2 h1]
    exact cir_turn n (by omega) _ h1 _ h2
  have := Turn_yes n (cirS n) (cirR n) (cir_valid h3 h8) w
  rw [e1, e2] at this
  exact this
theorem cirSyms_any {n : Nat} (h3 : 3 ≤ n) (h8 : n ≤ 8) (w : World) : Calls Tryd.prog 12 #[strV n (cirS n) (cirR n)] w fun e w' => e = .returned (.int .i64 ((2 * n : Nat) : Int)) ∧ Below w.heap.size w w' := by
  have hv := cir_valid h3 h8
  obtain ⟨_, _, hS, hR, _, _⟩ := valid_is hv
  have h88 := Nat.mul_le_mul h8 h8
  have := CountSymmetries_any (n : Int) (cirS n) (cirR n) (by omega) (by omega) w
  have e : symsV n (cirS n) (cirR n) = ((2 * n : Nat) : Int) := by
    unfold symsV
    rw [hv, if_pos rfl, Int.toNat_natCast, cir_shapes, (cir_facts n (by omega) h3).2.2]
  rw [e] at this
  exact this
theorem clsN_zero {f : Nat → Nat → Bool} {n : Nat} (h : ∀ x, 0 < x → x < n → f 0 x = true) : ∀ k, k ≤ n → 1 ≤ k → (clsN f k).1 = List.replicate k 0 ∧ (clsN f k).2 = 1
  | 0, _, h1 => by omega
  | 1, _, _ => by simp [clsN, fstAl]
  | k + 2, hk, _ => by
    obtain ⟨h1, h2⟩ := clsN_zero h (k + 1) (by omega) (by omega)
    have hf : fstAl f (k + 1) (k + 1) = some 0 := fstAl_yes (k := 0) rfl (h (k + 1) (by omega) (by omega)) (by omega)
    rw [clsN, hf]
    refine ⟨?_, h2⟩
    show (clsN f (k + 1)).1 ++ [(clsN f (k + 1)).1.getD 0 0] = _
    rw [h1, List.replicate_succ' (n := k + 1)]
    congr 1
theorem maxU_zero (k : Nat) : ∀ j, maxU (List.replicate k 0) j = 0 := by
  intro j
  have := maxU_le (L := List.replicate k 0) (b := 0) (fun z hz => by rw [List.eq_of_mem_replicate hz]; exact Nat.le_refl _) j
  omega
theorem cirPebs_any {n : Nat} (h3 : 3 ≤ n) (h8 : n ≤ 8) (w : World) : Calls Tryd.prog 13 #[strV n (cirS n) (cirR n), .int .i64 2] w fun e w' => e = .returned (.int .i64 1) ∧ Below w.heap.size w w' := by
  refine (PebbleClasses_any n 2 (cirS n) (cirR n) (cir_valid h3 h8) (by decide) (by decide) w).mono ?_
  rintro e w' ⟨t, rfl, hb⟩
  refine ⟨?_, hb⟩
  have hz := clsN_zero (f := fun y x => pwB (stOf n (cirS n) (cirR n)) (stOf n (cirS n) (cirR n)) n n t (putI 2 y) (putI 2 x)) (n := n) (fun x hx hxn => by
    obtain ⟨o, ho, hox⟩ := cir_moves n (by omega) h3 0 (by omega) x hxn
    rw [← cir_shapes] at ho
    obtain ⟨hT, hl⟩ := Gs.shapes_mem.1 ho
    have := pwB_mv hT hl t (putI 2 0) (fun z hz => by
      rcases mem_setI hz with hz | rfl
      · rw [List.eq_of_mem_replicate hz]; exact ⟨Int.le_refl _, by show (-1 : Int) < (n : Int); omega⟩
      · show -1 ≤ ((0 : Nat) : Int) ∧ ((0 : Nat) : Int) < (n : Int); omega)
    have e : (putI 2 0).map (mvI o) = putI 2 x := by
      unfold putI
      rw [List.map_set]
      have e1 : mvI o ((0 : Nat) : Int) = (x : Int) := by
        unfold mvI
        rw [if_pos (by omega)]
        show ((o.getD 0 0 : Nat) : Int) = _
        rw [hox]
      rw [e1]
      rfl
    rw [e] at this
    exact this) n (Nat.le_refl _) (by omega)
  rw [hz.1, maxU_zero]
  rfl
end
theorem DrawCircleOf_any (w : World) (a : Option Addr) (len cap : Nat) (zs : List Int) (h : IsRow .u8 w a len cap zs) :
    Calls Tryd.prog 5 #[.slice a len cap] w fun e w' => ∃ z : Int, e = .returned (.int .i64 z) ∧ 2 ≤ z ∧ z ≤ 9 ∧ Below w.heap.size w w' := by
  have H := Lib.hid h; clear h
  go_enter Tryd.func5, Tryd.ntmps5
  go_wp2_with fail
  refine (l15Open_any _ _ _ _ _ H.out).mono ?_; rintro e w1 ⟨rfl, hr, hb, hs⟩
  have HR := Lib.hid hr; have HB := Lib.hid hb
  clear hr hb hs
  generalize hB : w.heap.size = B at *
  have HW := Lib.hid hB; clear hB
  have HN := Lib.hid (fun T => num_list w1 B 0 [3, 4, 8, 5, 2, 9, 6, 7] T HR.out (by omega) (by decide) (by decide))
  go_wp2_with fail
  refine (HN.out _).mono ?_; rintro e w2 ⟨z, hz, rfl, hr, hg⟩
  have HP : Hid (Below B w w2) := by
    have hB := HW.out
    subst hB
    exact below_of_grown HB.out (Nat.le_refl _) hg
  have hz2 : 2 ≤ z ∧ z ≤ 9 := by
    simp at hz
    omega
  clear hr hg hz
  go_wp2_with fail
  go_ret
  exact ⟨z, rfl, hz2.1, hz2.2, by rw [HW.out]; exact HP.out⟩
/-- The law's own structure. -/
structure Rst (w wr : World) (b : Nat) (n : Int) (S R : ByteArray) : Prop where
  a : SBlk wr b n S R
  old : Below w.heap.size w wr
  lo : w.heap.size ≤ b
theorem Rst.below {w wr w' : World} {b : Nat} {n : Int} {S R : ByteArray} (h : Rst w wr b n S R) (hb : Below wr.heap.size wr w') : Rst w w' b n S R := ⟨h.a.below hb h.a.cells.2.2.2.2.2.2, h.old.trans (hb.mono h.old.size), h.lo⟩
set_option maxHeartbeats 2000000 in
theorem fnCircleOf_walk (a0 : Option Addr) (len0 cap0 : Nat) (z0 : List Int) (w : World) (w0 : IsRow .u8 w a0 len0 cap0 z0) :
    Calls Tryd.prog 3 #[.slice a0 len0 cap0] w fun e w' => e = .returned (.bool true) ∧ Below w.heap.size w w' := by
  have m0 := rowLen32 w0
  unfold maxLen at m0
  have W0 := Lib.hid w0; clear w0
  by_cases l0 : (len0 : Int) ≤ 1048576
  · go_enter Tryd.func3, Tryd.ntmps3
    go_wp2_with fail
    refine (DrawCircleOf_any _ _ _ _ _ W0.out).mono ?_; rintro e w2 ⟨z, rfl, hz0, hz9, hb⟩
    have HB := Lib.hid hb; clear hb
    have h1 := fun w => specCircleOf_any z w
    have h2 := fun w => implCircleOf_any z w
    cases hin : inB z 3 8
    · rw [hin, if_neg (by decide)] at h1 h2
      have H1 := Lib.hid h1; have H2 := Lib.hid h2; clear h1 h2 hin
      unfold strV at H1 H2
      go_wp2_with fail
      refine (H2.out _).mono ?_; rintro e w3 ⟨rfl, hb⟩
      have HB3 := Lib.hid (HB.out.trans (hb.mono HB.out.size)); clear hb
      go_wp2_with fail
      refine (H1.out _).mono ?_; rintro e w4 ⟨rfl, hb⟩
      have HB4 : Hid (Below w.heap.size w w4) := (HB3.out.alloc HB3.out.size _).trans (hb.mono (by have := HB3.out.size; simp; omega))
      have hR1 : SBlk w4 w3.heap.size 0 ByteArray.empty ByteArray.empty := by
        have h := SBlk.new w3 0 ByteArray.empty ByteArray.empty
        exact h.below hb (by simp)
      obtain ⟨c0, c1, c2, f0, f1, f2, hs1⟩ := hR1.cells
      clear hb hR1
      go_wp2_with fail
      go_ret
      exact ⟨rfl, HB4.out.alloc HB4.out.size _⟩
    · obtain ⟨h3, h8⟩ := inB_iff.1 hin
      obtain ⟨n, rfl⟩ := Int.eq_ofNat_of_zero_le (show 0 ≤ z by omega)
      rw [hin, if_pos rfl, Int.toNat_natCast] at h1 h2
      have hn3 : 3 ≤ n := by omega
      have hn8 : n ≤ 8 := by omega
      have HN := Lib.hid (fun x hx w => cirNear_any hn3 hn8 x hx w)
      have HD := Lib.hid (fun x hx w => cirDist_any hn3 hn8 x hx w)
      have HO := Lib.hid (fun x hx w => cirOrbit_any hn3 hn8 x hx w)
      have HT := Lib.hid (fun w => cirTurn_any hn3 hn8 w)
      have HS := Lib.hid (fun w => cirSyms_any hn3 hn8 w)
      have HP := Lib.hid (fun w => cirPebs_any hn3 hn8 w)
      unfold circleV at h1 h2
      have e1 : bitsOf (fun _ => false) n = cirS n := rfl
      have e2 : gridOf (nextB n) n = cirR n := rfl
      rw [e1, e2] at h1 h2
      have H1 := Lib.hid h1; have H2 := Lib.hid h2; clear h1 h2 hin h3 h8 e1 e2
      generalize cirS n = S at *
      generalize cirR n = R at *
      unfold strV at H1 H2 HN HD HO HT HS HP
      go_wp2_with fail
      refine (H2.out _).mono ?_; rintro e w3 ⟨rfl, hb⟩
      have HB3 := Lib.hid (HB.out.trans (hb.mono HB.out.size)); clear hb
      go_wp2_with fail
      refine (H1.out _).mono ?_; rintro e w4 ⟨rfl, hb⟩
      have hR1 : SBlk w4 w3.heap.size n S R := by
        have h := SBlk.new w3 n S R
        exact h.below hb (by simp)
      have HR1 : Hid (Rst w w4 w3.heap.size n S R) := ⟨hR1, (HB3.out.alloc HB3.out.size _).trans (hb.mono (by have := HB3.out.size; simp; omega)), HB3.out.size⟩
      obtain ⟨b, hbe⟩ : ∃ b, w3.heap.size = b := ⟨_, rfl⟩
      rw [hbe] at HR1 hR1
      have HBE := Lib.hid hbe
      obtain ⟨c0, c1, c2, f0, f1, f2, hs1⟩ := hR1.cells
      clear hb hR1 hbe
      rw [HBE.out]
      have hal : Below w4.heap.size w4 (w4.alloc (.cells #[.int .i64 (n : Int), .string S, .string R] 25)) := (Below.refl _ _).alloc (Nat.le_refl _) _
      have HR2 := Lib.hid (HR1.out.below hal)
      clear hal
      obtain ⟨W, hW⟩ : ∃ W, w4.alloc (.cells #[.int .i64 (n : Int), .string S, .string R] 25) = W := ⟨_, rfl⟩
      rw [hW] at HR2
      have HX : Hid (SBlk W w4.heap.size n S R) := by rw [← hW]; exact SBlk.new w4 n S R
      have HW := Lib.hid hW
      clear hW
      go_upto_region 6 with fail
      rw [HW.out]
      clear c0 c1 c2 f0 f1 f2 hs1 HR1
      obtain ⟨c0, c1, c2, f0, f1, f2, hs1⟩ := HR2.out.a.cells
      obtain ⟨d0, d1, d2, _, _, _, _⟩ := HX.out.cells
      go_wp2_with fail
      go_loopw [8] (fun q wr => ∃ x : Nat, x ≤ n ∧ q = .int .i64 (x : Int) ∧ Hid (Rst w wr b n S R)) (fun q _ => n - (intOf q).toNat)
      case atStart => exact ⟨0, by omega, rfl, HR2⟩
      case round =>
        clear HR2 c0 c1 c2 f0 f1 f2 hs1 d0 d1 d2 HX HW
        obtain ⟨x, hx, rfl, HR⟩ := hrel
        by_cases hlt : x < n
        · have hxI : (x : Int) < (n : Int) := by omega
          have HN1 := Lib.hid (fun w => HN.out x hlt w)
          have HD1 := Lib.hid (fun w => HD.out x hlt w)
          have HO1 := Lib.hid (fun w => HO.out x hlt w)
          obtain ⟨mn, hmn⟩ : ∃ mn, min x (n - x) = mn := ⟨_, rfl⟩
          rw [hmn] at HD1
          have hm1 : min (x : Int) ((n : Int) - (x : Int)) = (mn : Int) := by omega
          have hm2 : (if (n : Int) - (x : Int) < (x : Int) then (n : Int) - (x : Int) else (x : Int)) = (mn : Int) := by split <;> omega
          have hmb : mn ≤ 8 := by omega
          clear hmn
          obtain ⟨c0, c1, c2, f0, f1, f2, hs1⟩ := HR.out.a.cells
          go_wp2_with fail
          refine (HN1.out _).mono ?_; rintro e w5 ⟨a5, q5, rfl, hb⟩
          have HR5 := Lib.hid (HR.out.below hb)
          clear hb c0 c1 c2 f0 f1 f2 hs1
          obtain ⟨c0, c1, c2, f0, f1, f2, hs1⟩ := HR5.out.a.cells
          go_wp2_with fail
          refine (HD1.out _).mono ?_; rintro e w6 ⟨rfl, hb⟩
          have HR6 := Lib.hid (HR5.out.below hb)
          clear hb c0 c1 c2 f0 f1 f2 hs1
          obtain ⟨c0, c1, c2, f0, f1, f2, hs1⟩ := HR6.out.a.cells
          go_wp2_with fail
          refine (HO1.out _).mono ?_; rintro e w7 ⟨a7, q7, rfl, hb⟩
          have HR7 := Lib.hid (HR6.out.below hb)
          clear hb c0 c1 c2 f0 f1 f2 hs1
          go_wp2_with fail
          go_roundw
          case rel => exact ⟨x + 1, by omega, by go_num, HR7⟩
          case measure => simp [intOf]; omega
        · obtain rfl : x = n := by omega
          obtain ⟨c0, c1, c2, f0, f1, f2, hs1⟩ := HR.out.a.cells
          go_wp2_with fail
          refine (HT.out _).mono ?_; rintro e w5 ⟨rfl, hb⟩
          have HR5 := Lib.hid (HR.out.below hb)
          clear hb c0 c1 c2 f0 f1 f2 hs1
          have hal : Below w5.heap.size w5 (w5.alloc (.cells #[.int .i64 (x : Int), .string S, .string R] 25)) := (Below.refl _ _).alloc (Nat.le_refl _) _
          have HR6 := Lib.hid (HR5.out.below hal)
          clear hal
          obtain ⟨W, hW⟩ : ∃ W, w5.alloc (.cells #[.int .i64 (x : Int), .string S, .string R] 25) = W := ⟨_, rfl⟩
          rw [hW] at HR6
          have HX : Hid (SBlk W w5.heap.size x S R) := by rw [← hW]; exact SBlk.new w5 x S R
          have HW := Lib.hid hW
          clear hW
          go_upto_region 14 with fail
          rw [HW.out]
          obtain ⟨c0, c1, c2, f0, f1, f2, hs1⟩ := HR6.out.a.cells
          obtain ⟨d0, d1, d2, _, _, _, _⟩ := HX.out.cells
          have h2x : ((2 * x : Nat) : Int) = 2 * (x : Int) := by omega
          go_wp2_with fail
          refine (HS.out _).mono ?_; rintro e w6 ⟨rfl, hb⟩
          have HR7 := Lib.hid (HR6.out.below hb)
          clear hb c0 c1 c2 f0 f1 f2 hs1 d0 d1 d2
          obtain ⟨c0, c1, c2, f0, f1, f2, hs1⟩ := HR7.out.a.cells
          go_wp2_with fail
          refine (HP.out _).mono ?_; rintro e w7 ⟨rfl, hb⟩
          have HR8 := Lib.hid (HR7.out.below hb)
          clear hb c0 c1 c2 f0 f1 f2 hs1
          go_wp2_with fail
          go_ret
          exact ⟨rfl, HR8.out.old⟩
  · go_enter Tryd.func3, Tryd.ntmps3
    go_wp2
    go_ret
    exact ⟨rfl, Below.refl _ _⟩
end Go.Proofs.YtnhlhjehocngcaaDoor
