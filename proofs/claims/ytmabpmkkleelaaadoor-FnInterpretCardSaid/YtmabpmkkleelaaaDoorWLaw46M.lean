/- The walk of the law FnInterpret: it returns true. Condition: the bytes are readable. -/
import Derived.Test.YtmabpmkkleelaaaDoorMakeE
import Derived.Test.YtmabpmkkleelaaaDoorStill
import Derived.Test.YtmabpmkkleelaaaDoorShape
import Derived.Test.YtmabpmkkleelaaaDoorSum
import Derived.Test.YtmabpmkkleelaaaDoorHolds
import Derived.Test.YtmabpmkkleelaaaDoorWith
import Derived.Test.YtmabpmkkleelaaaDoorBase
import Derived.Deep.RegionHeld3
import Derived.Deep.DeepCutAuto
import Derived.Test.YtmabpmkkleelaaaDoorBits
import Derived.Test.YtmabpmkkleelaaaDoorInterp
import Derived.Test.YtmabpmkkleelaaaDoorLawS
import Derived.Test.YtmabpmkkleelaaaDoorCircle
import Derived.Test.YtmabpmkkleelaaaDoorIV
import Derived.Test.YtmabpmkkleelaaaDoorEach
import Derived.Test.YtmabpmkkleelaaaDoorDrawV
/- makeStructure where the set is another structure's own. Conditions: those that each states. -/
namespace Go.Proofs.YtmabpmkkleelaaaDoor
open Go.RowKit
set_option linter.unusedVariables false
set_option maxRecDepth 100000

set_option maxHeartbeats 1000000 in
theorem makeStructure_set (n : Nat) (hn : n ≤ 8) (S0 R0 : ByteArray) (hS0 : S0.size = n) (k2 : FuncId) (c2 : Array Value) (r : Nat → Nat → Bool) (w : World)
    (hk2 : ∀ (args : Array Value) (W : World), (callFunc k2 args).run Tryd.prog W = .ok (.enter k2 args) W)
    (hr : ∀ x y W, x < n → y < n → Below w.heap.size w W → Calls Tryd.prog k2 (#[.int .i64 (x : Int), .int .i64 (y : Int)] ++ c2) W fun e w' => e = .returned (.bool (r x y)) ∧ Below W.heap.size W w') :
    Calls Tryd.prog 80 #[.int .i64 (n : Int), .func (.func 101) #[strV n S0 R0] #[], .func (.func k2) #[] c2] w fun e w' => e = .returned (strV n (bitsOf (oneAt S0) n) (gridOf r n)) ∧ Below w.heap.size w w' := by
  have HS : Hid (∀ x W, x < n → Below w.heap.size w W → Calls Tryd.prog 101 #[strV n S0 R0, .int .i64 (x : Int)] W fun e w' => e = .returned (.bool (oneAt S0 x)) ∧ Below W.heap.size W w') := fun x W hx _ => inSet_b n S0 R0 x W (by omega) (by omega)
  have HR := Lib.hid hr; clear hr
  obtain ⟨s, hsd⟩ : ∃ s : Nat → Bool, oneAt S0 = s := ⟨_, rfl⟩
  rw [hsd] at HS ⊢
  clear hsd hS0
  unfold strV at HS ⊢
  go_enter Tryd.func80, Tryd.ntmps80
  go_wp2_with fail
  have hI0 : MkInv w ((w.alloc (.cells #[.int .i64 0, .string ByteArray.empty, .string ByteArray.empty] 28)).alloc (.cells #[.int .i64 n, .string ByteArray.empty, .string ByteArray.empty] 28)) n (bitsOf s 0) (bitsOf (fun k => r (k / n) (k % n)) (0 * n)) := by
    refine ⟨?_, ?_, ((Below.refl _ _).alloc (Nat.le_refl _) _).alloc (by simp) _⟩
    · exact (Below.heap_alloc _ _ _ (by simp)).trans (SBlk.new w 0 ByteArray.empty ByteArray.empty)
    · have h := SBlk.new (w.alloc (.cells #[.int .i64 0, .string ByteArray.empty, .string ByteArray.empty] 28)) n ByteArray.empty ByteArray.empty
      simpa [bitsOf_zero] using h
  have HI0 := Lib.hid hI0; clear hI0
  go_loopw [13, 8] (fun i _ wr => ∃ x : Nat, x ≤ n ∧ i = .int .i64 x ∧ Hid (MkInv w wr n (bitsOf s x) (bitsOf (fun k => r (k / n) (k % n)) (x * n)))) (fun i _ _ => n - (intOf i).toNat)
  case atStart => exact ⟨0, by omega, rfl, HI0.out⟩
  case round =>
    obtain ⟨x, hx, rfl, HI⟩ := hrel
    by_cases hlt : x < n
    · obtain ⟨c0, c1', c2', f0, f1, f2, hb⟩ := HI.out.out.cells
      have z0 : (bitsOf s x).size ≤ 8 := by rw [bitsOf_size]; omega
      have z1 : (bitS (s x)).size ≤ 1 := Nat.le_refl _
      go_upto_region 5 with fail
      go_cut [] (fun wx => MkInv w wx n (bitsOf s x ++ bitS (s x)) (bitsOf (fun k => r (k / n) (k % n)) (x * n)))
      case first =>
        go_region_with (first | (go_at_call 148; refine (bitOf_any _ _).mono ?_; rintro e w' ⟨rfl, rfl⟩) | ((with_reducible refine (HS.out x _ hlt ?_).mono ?_); (exact HI.out.old.drew); rintro e w1 ⟨rfl, hb1⟩; have HI1 := Lib.hid (HI.out.drew.below hb1); obtain ⟨i0, i1, i2, j0, j1, j2, hbb⟩ := HI1.out.out.cells; clear hb1))
        all_goals (go_wp2_with fail; go_meet; exact HI1.out.set1 _)
      case rest =>
        have HI := Lib.hid hcut; clear hcut
        rw [← bitsOf_succ] at HI
        go_wp2_with fail
        go_loopw [25, 9] (fun j _ wr => ∃ y : Nat, y ≤ n ∧ j = .int .i64 y ∧ Hid (MkInv w wr n (bitsOf s (x + 1)) (bitsOf (fun k => r (k / n) (k % n)) (x * n + y)))) (fun j _ _ => n - (intOf j).toNat)
        case atStart => exact ⟨0, by omega, rfl, HI.out⟩
        case round =>
          obtain ⟨y, hy, rfl, HJ⟩ := hrel
          by_cases hlt2 : y < n
          · obtain ⟨c0, c1', c2', f0, f1, f2, hb⟩ := HJ.out.out.cells
            have hxy : x * n + y ≤ 64 := by
              have h1 : x * n ≤ 7 * 8 := Nat.mul_le_mul (by omega) hn
              omega
            have z0 : (bitsOf (fun k => r (k / n) (k % n)) (x * n + y)).size ≤ 64 := by rw [bitsOf_size]; exact hxy
            have z1 : (bitS (r x y)).size ≤ 1 := Nat.le_refl _
            have HG : Hid (bitsOf (fun k => r (k / n) (k % n)) (x * n + (y + 1)) = bitsOf (fun k => r (k / n) (k % n)) (x * n + y) ++ bitS (r x y)) := by
              show bitsOf (fun k => r (k / n) (k % n)) (x * n + y + 1) = _
              rw [bitsOf_succ]
              exact congrArg (fun b => bitsOf (fun k => r (k / n) (k % n)) (x * n + y) ++ bitS b) (grid_at (r := r) (x := x) hlt2)
            clear hxy
            generalize bitsOf (fun k => r (k / n) (k % n)) (x * n + y) = G at *
            go_wp2_with fail
            go_region_with (first | (go_at_call 148; refine (bitOf_any _ _).mono ?_; rintro e w' ⟨rfl, rfl⟩) | ((with_reducible refine (HR.out x y _ hlt hlt2 ?_).mono ?_); (exact HJ.out.old.drew); rintro e w1 ⟨rfl, hb1⟩; have HI1 := Lib.hid (HJ.out.drew.below hb1); obtain ⟨i0, i1, i2, j0, j1, j2, hbb⟩ := HI1.out.out.cells; clear hb1))
            all_goals
              have HI2 := Lib.hid (HI1.out.set2 (G ++ bitS (r x y)))
              go_wp2_with fail
              go_roundw
              case rel =>
                refine ⟨y + 1, by omega, by go_num, ?_⟩
                rw [HG.out]
                exact HI2.out
              case measure => simp [intOf]; omega
          · have HI2 : Hid (MkInv w wr n (bitsOf s (x + 1)) (bitsOf (fun k => r (k / n) (k % n)) ((x + 1) * n))) := by
              have h := HJ.out
              rw [show x * n + y = (x + 1) * n by rw [Nat.add_mul, Nat.one_mul]; omega] at h
              exact h
            go_wp2_with fail
            go_roundw
            case rel => exact ⟨x + 1, by omega, by go_num, HI2.out⟩
            case measure => simp [intOf]; omega
    · obtain ⟨c0, c1', c2', f0, f1, f2, hb⟩ := HI.out.out.cells
      obtain ⟨d0, d1, d2, g0, g1, g2, hb'⟩ := HI.out.res.cells
      have hxn : x = n := by omega
      subst hxn
      go_wp2_with fail
      refine bodyPost_ret (v := strV x (bitsOf s x) (gridOf r x)) ?_ rfl ⟨rfl, ?_⟩
      · exact results_str rfl rfl HI.out.res.set3
      · exact ((HI.out.old.setCell (by simp) _).setCell (by simp) _).setCell (by simp) _
set_option maxHeartbeats 1000000 in
theorem makeStructure_setE {F G : Nat → Prop} {kb : Nat} {a : Gs.St} (n : Nat) (hn : n ≤ 8) (S0 R0 : ByteArray) (hS0 : S0.size = n) (k2 : FuncId) (c2 : Array Value) (r : Nat → Nat → Bool) (w : World)
    (hk2 : ∀ (args : Array Value) (W : World), (callFunc k2 args).run Tryd.prog W = .ok (.enter k2 args) W)
    (hm0 : Memo F G w kb a)
    (hr : ∀ x y W G', x < n → y < n → EverP F G kb a w W → Memo F G' W kb a → Calls Tryd.prog k2 (#[.int .i64 (x : Int), .int .i64 (y : Int)] ++ c2) W fun e w' => e = .returned (.bool (r x y)) ∧ EverP F G' kb a W w') :
    Calls Tryd.prog 80 #[.int .i64 (n : Int), .func (.func 101) #[strV n S0 R0] #[], .func (.func k2) #[] c2] w fun e w' => e = .returned (strV n (bitsOf (oneAt S0) n) (gridOf r n)) ∧ EverP F G kb a w w' := by
  have HS : Hid (∀ x W G', x < n → EverP F G kb a w W → Memo F G' W kb a → Calls Tryd.prog 101 #[strV n S0 R0, .int .i64 (x : Int)] W fun e w' => e = .returned (.bool (oneAt S0 x)) ∧ EverP F G' kb a W w') := fun x W G' hx _ hm => (inSet_b n S0 R0 x W (by omega) (by omega)).mono fun _ _ h => ⟨h.1, EverP.of_below hm h.2⟩
  have HR := Lib.hid hr; clear hr
  obtain ⟨s, hsd⟩ : ∃ s : Nat → Bool, oneAt S0 = s := ⟨_, rfl⟩
  rw [hsd] at HS ⊢
  clear hsd hS0
  unfold strV at HS ⊢
  go_enter Tryd.func80, Tryd.ntmps80
  go_wp2_with fail
  have hI0 : MkE F G kb a w ((w.alloc (.cells #[.int .i64 0, .string ByteArray.empty, .string ByteArray.empty] 28)).alloc (.cells #[.int .i64 n, .string ByteArray.empty, .string ByteArray.empty] 28)) n (bitsOf s 0) (bitsOf (fun k => r (k / n) (k % n)) (0 * n)) := by
    have hbb : Below w.heap.size w ((w.alloc (.cells #[.int .i64 0, .string ByteArray.empty, .string ByteArray.empty] 28)).alloc (.cells #[.int .i64 n, .string ByteArray.empty, .string ByteArray.empty] 28)) := ((Below.refl _ _).alloc (Nat.le_refl _) _).alloc (by simp) _
    refine ⟨?_, ?_, hm0.flt, EverP.of_below hm0 hbb, ⟨G, hm0.below hbb, fun b hb => .inl hb, fun hg => by have := hm0.lt _ hg; omega, fun hg => by have := hm0.lt _ hg; omega⟩⟩
    · exact (Below.heap_alloc _ _ _ (by simp)).trans (SBlk.new w 0 ByteArray.empty ByteArray.empty)
    · have h := SBlk.new (w.alloc (.cells #[.int .i64 0, .string ByteArray.empty, .string ByteArray.empty] 28)) n ByteArray.empty ByteArray.empty
      simpa [bitsOf_zero] using h
  have HI0 := Lib.hid hI0; clear hI0
  go_loopw [13, 8] (fun i _ wr => ∃ x : Nat, x ≤ n ∧ i = .int .i64 x ∧ Hid (MkE F G kb a w wr n (bitsOf s x) (bitsOf (fun k => r (k / n) (k % n)) (x * n)))) (fun i _ _ => n - (intOf i).toNat)
  case atStart => exact ⟨0, by omega, rfl, HI0.out⟩
  case round =>
    obtain ⟨x, hx, rfl, HI⟩ := hrel
    by_cases hlt : x < n
    · obtain ⟨c0, c1', c2', f0, f1, f2, hb⟩ := HI.out.out.cells
      have z0 : (bitsOf s x).size ≤ 8 := by rw [bitsOf_size]; omega
      have z1 : (bitS (s x)).size ≤ 1 := Nat.le_refl _
      go_upto_region 5 with fail
      go_cut [] (fun wx => MkE F G kb a w wx n (bitsOf s x ++ bitS (s x)) (bitsOf (fun k => r (k / n) (k % n)) (x * n)))
      case first =>
        have HD := Lib.hid HI.out.drew
        obtain ⟨G', hm, hG', g0, g1⟩ := HD.out.memo
        have HG' := Lib.hid hG'
        clear hG'
        go_region_with (first | (go_at_call 148; refine (bitOf_any _ _).mono ?_; rintro e w' ⟨rfl, rfl⟩) | ((with_reducible refine (HS.out x _ G' hlt ?_ ?_).mono ?_); (exact HD.out.old); (exact hm); rintro e w1 ⟨rfl, hb1⟩; have HI1 := Lib.hid (HD.out.call hm HG'.out g0 g1 hb1); obtain ⟨i0, i1, i2, j0, j1, j2, hbb⟩ := HI1.out.out.cells; clear hb1))
        all_goals (go_wp2_with fail; go_meet; exact HI1.out.set1 _)
      case rest =>
        have HI := Lib.hid hcut; clear hcut
        rw [← bitsOf_succ] at HI
        go_wp2_with fail
        go_loopw [25, 9] (fun j _ wr => ∃ y : Nat, y ≤ n ∧ j = .int .i64 y ∧ Hid (MkE F G kb a w wr n (bitsOf s (x + 1)) (bitsOf (fun k => r (k / n) (k % n)) (x * n + y)))) (fun j _ _ => n - (intOf j).toNat)
        case atStart => exact ⟨0, by omega, rfl, HI.out⟩
        case round =>
          obtain ⟨y, hy, rfl, HJ⟩ := hrel
          by_cases hlt2 : y < n
          · obtain ⟨c0, c1', c2', f0, f1, f2, hb⟩ := HJ.out.out.cells
            have hxy : x * n + y ≤ 64 := by
              have h1 : x * n ≤ 7 * 8 := Nat.mul_le_mul (by omega) hn
              omega
            have z0 : (bitsOf (fun k => r (k / n) (k % n)) (x * n + y)).size ≤ 64 := by rw [bitsOf_size]; exact hxy
            have z1 : (bitS (r x y)).size ≤ 1 := Nat.le_refl _
            have HG : Hid (bitsOf (fun k => r (k / n) (k % n)) (x * n + (y + 1)) = bitsOf (fun k => r (k / n) (k % n)) (x * n + y) ++ bitS (r x y)) := by
              show bitsOf (fun k => r (k / n) (k % n)) (x * n + y + 1) = _
              rw [bitsOf_succ]
              exact congrArg (fun b => bitsOf (fun k => r (k / n) (k % n)) (x * n + y) ++ bitS b) (grid_at (r := r) (x := x) hlt2)
            clear hxy
            generalize bitsOf (fun k => r (k / n) (k % n)) (x * n + y) = G at *
            go_wp2_with fail
            have HD := Lib.hid HJ.out.drew
            obtain ⟨G', hm, hG', g0, g1⟩ := HD.out.memo
            have HG' := Lib.hid hG'
            clear hG'
            go_region_with (first | (go_at_call 148; refine (bitOf_any _ _).mono ?_; rintro e w' ⟨rfl, rfl⟩) | ((with_reducible refine (HR.out x y _ G' hlt hlt2 ?_ ?_).mono ?_); (exact HD.out.old); (exact hm); rintro e w1 ⟨rfl, hb1⟩; have HI1 := Lib.hid (HD.out.call hm HG'.out g0 g1 hb1); obtain ⟨i0, i1, i2, j0, j1, j2, hbb⟩ := HI1.out.out.cells; clear hb1))
            all_goals
              have HI2 := Lib.hid (HI1.out.set2 (G ++ bitS (r x y)))
              go_wp2_with fail
              go_roundw
              case rel =>
                refine ⟨y + 1, by omega, by go_num, ?_⟩
                rw [HG.out]
                exact HI2.out
              case measure => simp [intOf]; omega
          · have HI2 : Hid (MkE F G kb a w wr n (bitsOf s (x + 1)) (bitsOf (fun k => r (k / n) (k % n)) ((x + 1) * n))) := by
              have h := HJ.out
              rw [show x * n + y = (x + 1) * n by rw [Nat.add_mul, Nat.one_mul]; omega] at h
              exact h
            go_wp2_with fail
            go_roundw
            case rel => exact ⟨x + 1, by omega, by go_num, HI2.out⟩
            case measure => simp [intOf]; omega
    · obtain ⟨c0, c1', c2', f0, f1, f2, hb⟩ := HI.out.out.cells
      obtain ⟨d0, d1, d2, g0, g1, g2, hb'⟩ := HI.out.res.cells
      have hxn : x = n := by omega
      subst hxn
      go_wp2_with fail
      refine bodyPost_ret (v := strV x (bitsOf s x) (gridOf r x)) ?_ rfl ⟨rfl, ?_⟩
      · exact results_str rfl rfl HI.out.res.set3
      · exact HI.out.fin _ _ _
end Go.Proofs.YtmabpmkkleelaaaDoor
/- Plainly: the number of symmetries of a structure divides that of one of as many elements that keeps them all. No condition beyond those that each states. -/
namespace Go.Proofs.YtmabpmkkleelaaaDoor.Gs
set_option linter.unusedVariables false

theorem nodup_le {α : Type} [DecidableEq α] : ∀ {L M : List α}, L.Nodup → (∀ x ∈ L, x ∈ M) → L.length ≤ M.length
  | [], M, _, _ => Nat.zero_le _
  | x :: L, M, hd, hs => by
    have h := List.nodup_cons.1 hd
    have hx := hs x (by simp)
    have ih := nodup_le (L := L) (M := M.erase x) h.2 (fun y hy => (List.mem_erase_of_ne (by rintro rfl; exact h.1 hy)).2 (hs y (by simp [hy])))
    rw [List.length_erase_of_mem hx] at ih
    have : 0 < M.length := List.length_pos_of_mem hx
    simp only [List.length_cons]; omega
theorem nodup_all {n : Nat} {L : List Nat} (hd : L.Nodup) (hl : L.length = n) (hn : ∀ x ∈ L, x < n) {i : Nat} (hi : i < n) : i ∈ L := by
  refine Classical.byContradiction fun h => ?_
  have := nodup_le (L := i :: L) (M := List.range n) (List.nodup_cons.2 ⟨h, hd⟩) (fun x hx => by
    rw [List.mem_range]
    rcases List.mem_cons.1 hx with rfl | hx
    · exact hi
    · exact hn x hx)
  simp at this
  omega
theorem nodup_map {α β : Type} {f : α → β} : ∀ {L : List α}, L.Nodup → (∀ x ∈ L, ∀ y ∈ L, f x = f y → x = y) → (L.map f).Nodup
  | [], _, _ => List.nodup_nil
  | x :: L, hd, hi => by
    have h := List.nodup_cons.1 hd
    rw [List.map_cons, List.nodup_cons]
    refine ⟨fun hm => ?_, nodup_map h.2 (fun a ha b hb => hi a (by simp [ha]) b (by simp [hb]))⟩
    obtain ⟨y, hy, e⟩ := List.mem_map.1 hm
    have := hi y (by simp [hy]) x (by simp) e
    subst this
    exact h.1 hy
/-- A set that falls into parts of one size. -/
theorem orbits {α : Type} [DecidableEq α] (H : List α) (act : α → α → α) (P : α → Prop) (hH : H.Nodup)
    (inj : ∀ x, P x → ∀ h ∈ H, ∀ k ∈ H, act x h = act x k → h = k)
    (back : ∀ x y, P x → P y → ∀ h ∈ H, ∀ k ∈ H, act y h = act x k → ∃ l ∈ H, y = act x l)
    (one : ∀ x, P x → ∃ e ∈ H, act x e = x) :
    ∀ (n : Nat) (X : List α), X.length ≤ n → X.Nodup → (∀ x ∈ X, P x) → (∀ x ∈ X, ∀ h ∈ H, act x h ∈ X) → H.length ∣ X.length := by
  intro n
  induction n with
  | zero =>
    intro X hl _ _ _
    rw [Nat.le_zero.1 hl]; exact Nat.dvd_zero _
  | succ n ih =>
    intro X hl hd hP hc
    cases hX : X with
    | nil => exact Nat.dvd_zero _
    | cons x X' =>
      have hx : x ∈ X := by rw [hX]; simp
      rw [← hX]
      obtain ⟨e, he, hee⟩ := one x (hP x hx)
      have hO : (H.map (act x)).Nodup := nodup_map hH (fun h hh k hk e => inj x (hP x hx) h hh k hk e)
      have hOX : ∀ y ∈ H.map (act x), y ∈ X := fun y hy => by
        obtain ⟨h, hh, rfl⟩ := List.mem_map.1 hy
        exact hc x hx h hh
      have hlen : (X.filter fun y => decide (y ∈ H.map (act x))).length = H.length := by
        apply Nat.le_antisymm
        · have := nodup_le (L := X.filter fun y => decide (y ∈ H.map (act x))) (M := H.map (act x)) (hd.filter _) (fun y hy => of_decide_eq_true (List.mem_filter.1 hy).2)
          rwa [List.length_map] at this
        · have := nodup_le (L := H.map (act x)) (M := X.filter fun y => decide (y ∈ H.map (act x))) hO (fun y hy => List.mem_filter.2 ⟨hOX y hy, decide_eq_true hy⟩)
          rwa [List.length_map] at this
      have hsum : X.length = (X.filter fun y => decide (y ∈ H.map (act x))).length + (X.filter fun y => !decide (y ∈ H.map (act x))).length := by
        have := List.length_eq_countP_add_countP (fun y => decide (y ∈ H.map (act x))) (l := X)
        rw [List.countP_eq_length_filter, List.countP_eq_length_filter] at this
        rw [this]
        congr 2
        apply List.filter_congr
        intro y _
        cases decide (y ∈ H.map (act x)) <;> rfl
      have hpos : 0 < (X.filter fun y => decide (y ∈ H.map (act x))).length := List.length_pos_of_mem (List.mem_filter.2 ⟨hx, decide_eq_true (List.mem_map.2 ⟨e, he, hee⟩)⟩)
      have hY := ih (X.filter fun y => !decide (y ∈ H.map (act x))) (by omega) (hd.filter _) (fun y hy => hP y (List.mem_filter.1 hy).1) (fun y hy h hh => by
        have hy' := List.mem_filter.1 hy
        refine List.mem_filter.2 ⟨hc y hy'.1 h hh, ?_⟩
        have hn : ¬ y ∈ H.map (act x) := by simpa using hy'.2
        have : ¬ act y h ∈ H.map (act x) := fun hm => by
          obtain ⟨k, hk, e⟩ := List.mem_map.1 hm
          obtain ⟨l, hl, rfl⟩ := back x y (hP x hx) (hP y hy'.1) h hh k hk e.symm
          exact hn (List.mem_map.2 ⟨l, hl, rfl⟩)
        simpa using this)
      rw [hsum, hlen]
      exact Nat.dvd_add (Nat.dvd_refl _) hY

/-- One order behind another. -/
def comp (p q : List Nat) : List Nat := q.map fun i => p.getD i 0
theorem comp_at {p q : List Nat} {i : Nat} (h : i < q.length) : (comp p q).getD i 0 = p.getD (q.getD i 0) 0 := by
  unfold comp
  simp [h]
theorem gd_mem {p : List Nat} {i : Nat} (h : i < p.length) : p.getD i 0 ∈ p := by simp [h]
theorem gd_inj {p : List Nat} (hd : p.Nodup) {i j : Nat} (hi : i < p.length) (hj : j < p.length) (e : p.getD i 0 = p.getD j 0) : i = j := by
  simp only [List.getD_eq_getElem?_getD, List.getElem?_eq_getElem hi, List.getElem?_eq_getElem hj, Option.getD_some] at e
  rcases Nat.lt_trichotomy i j with h | h | h
  · exact absurd e (List.pairwise_iff_getElem.1 hd i j hi hj h)
  · exact h
  · exact absurd e.symm (List.pairwise_iff_getElem.1 hd j i hj hi h)
theorem ext_gd {p q : List Nat} (hl : p.length = q.length) (h : ∀ i, i < p.length → p.getD i 0 = q.getD i 0) : p = q := by
  apply List.ext_getElem hl
  intro i h1 h2
  have := h i h1
  simpa [h1, h2] using this
theorem comp_sym {a : St} {p q : List Nat} (hp : Turns a a p) (hq : Turns a a q) (lp : p.length = a.n) (lq : q.length = a.n) : Turns a a (comp p q) ∧ (comp p q).length = a.n := by
  have hl : (comp p q).length = a.n := by unfold comp; simpa using lq
  have hin : ∀ i, i < a.n → q.getD i 0 < a.n := fun i hi => hq.lt _ (gd_mem (by omega))
  refine ⟨⟨?_, ?_, fun i hi => ?_, fun i j hi hj => ?_⟩, hl⟩
  · refine nodup_map hq.nodup (fun x hx y hy e => gd_inj hp.nodup (by rw [lp]; exact hq.lt x hx) (by rw [lp]; exact hq.lt y hy) e)
  · intro x hx
    obtain ⟨i, hi, rfl⟩ := List.mem_map.1 hx
    exact hp.lt _ (gd_mem (by rw [lp]; exact hq.lt i hi))
  · rw [hl] at hi
    rw [comp_at (by omega), hp.s _ (by have := hin i hi; omega), hq.s _ (by omega)]
  · rw [hl] at hi hj
    rw [comp_at (by omega), comp_at (by omega), hp.r _ _ (by have := hin i hi; omega) (by have := hin j hj; omega), hq.r _ _ (by omega) (by omega)]
/-- The order that undoes another. -/
def undo (n : Nat) (p : List Nat) : List Nat := (List.range n).map fun i => p.idxOf i
theorem undo_at {n : Nat} {p : List Nat} (hd : p.Nodup) (hl : p.length = n) (hn : ∀ x ∈ p, x < n) {i : Nat} (hi : i < n) : (undo n p).getD i 0 < n ∧ p.getD ((undo n p).getD i 0) 0 = i := by
  have hm := nodup_all hd hl hn hi
  have e : (undo n p).getD i 0 = p.idxOf i := by unfold undo; simp [hi]
  have h1 : p.idxOf i < p.length := List.idxOf_lt_length_of_mem hm
  rw [e]
  refine ⟨by omega, ?_⟩
  rw [List.getD_eq_getElem?_getD, List.getElem?_eq_getElem h1, Option.getD_some]
  exact List.getElem_idxOf h1
theorem undo_sym {a : St} {p : List Nat} (hp : Turns a a p) (lp : p.length = a.n) : Turns a a (undo a.n p) ∧ (undo a.n p).length = a.n := by
  have hl : (undo a.n p).length = a.n := by unfold undo; simp
  have hat := fun i (hi : i < a.n) => undo_at hp.nodup lp hp.lt hi
  have hnd : (undo a.n p).Nodup := by
    refine List.pairwise_iff_getElem.2 fun i j hi hj hij e => ?_
    have h1 := hat i (by omega)
    have h2 := hat j (by omega)
    have e' : (undo a.n p).getD i 0 = (undo a.n p).getD j 0 := by simp [hi, hj, e]
    rw [e'] at h1
    omega
  refine ⟨⟨hnd, fun x hx => ?_, fun i hi => ?_, fun i j hi hj => ?_⟩, hl⟩
  · obtain ⟨i, hi, rfl⟩ := List.mem_iff_getElem.1 hx
    have := (hat i (by omega)).1
    simpa [hi] using this
  · rw [hl] at hi
    have h := hat i hi
    have := hp.s _ (show (undo a.n p).getD i 0 < p.length by omega)
    rw [h.2] at this
    exact this.symm
  · rw [hl] at hi hj
    have h := hat i hi
    have h' := hat j hj
    have := hp.r _ _ (show (undo a.n p).getD i 0 < p.length by omega) (show (undo a.n p).getD j 0 < p.length by omega)
    rw [h.2, h'.2] at this
    exact this.symm
theorem comp_undo {p q : List Nat} {n : Nat} (hp : p.Nodup) (lp : p.length = n) (hn : ∀ x ∈ p, x < n) : comp q (comp p (undo n p)) = comp q (List.range n) := by
  have l1 : (undo n p).length = n := by unfold undo; simp
  have l2 : (comp p (undo n p)).length = n := by unfold comp; simpa using l1
  apply ext_gd
  · unfold comp; simpa using l1
  · intro i hi
    have hi' : i < n := by unfold comp at hi; simpa [l1] using hi
    rw [comp_at (by omega), comp_at (by omega), (undo_at hp lp hn hi').2, comp_at (by simpa using hi')]
    simp [hi']
theorem comp_range {p : List Nat} {n : Nat} (lp : p.length = n) : comp p (List.range n) = p := by
  apply ext_gd
  · unfold comp; simpa using lp.symm
  · intro i hi
    have hi' : i < n := by unfold comp at hi; simpa using hi
    rw [comp_at (by simpa using hi')]
    simp [hi']
theorem comp_assoc {p q r : List Nat} (h : ∀ x ∈ r, x < q.length) : comp (comp p q) r = comp p (comp q r) := by
  unfold comp
  rw [List.map_map]
  apply List.map_congr_left
  intro x hx
  simp [h x hx]
theorem id_sym (a : St) : Turns a a (List.range a.n) ∧ (List.range a.n).length = a.n := by
  have h : ∀ i, i < a.n → (List.range a.n).getD i 0 = i := fun i hi => by simp [hi]
  refine ⟨⟨List.nodup_range, fun x hx => List.mem_range.1 hx, fun i hi => ?_, fun i j hi hj => ?_⟩, by simp⟩
  · rw [List.length_range] at hi
    rw [h i hi]
  · rw [List.length_range] at hi hj
    rw [h i hi, h j hj]
/-- A structure that keeps another one's symmetries has a multiple of them. -/
theorem shapes_dvd {a b : St} (hn : a.n = b.n) (hk : ∀ p, Turns a a p → p.length = a.n → Turns b b p) : (shapes a a).length ∣ (shapes b b).length := by
  have mem : ∀ {c : St} {p : List Nat}, p ∈ shapes c c ↔ Turns c c p ∧ p.length = c.n := shapes_mem
  have sub : ∀ p ∈ shapes a a, Turns b b p ∧ p.length = b.n := fun p hp => by
    have := mem.1 hp
    exact ⟨hk p this.1 this.2, by rw [this.2, hn]⟩
  refine orbits (shapes a a) comp (fun x => Turns b b x ∧ x.length = b.n) (shapes_nodup a a) ?_ ?_ ?_ _ (shapes b b) (Nat.le_refl _) (shapes_nodup b b) (fun x hx => mem.1 hx) ?_
  · intro x hx h hh k hkk e
    have h1 := mem.1 hh
    have h2 := mem.1 hkk
    refine ext_gd (by omega) (fun i hi => ?_)
    have := congrArg (fun l => List.getD l i 0) e
    change (comp x h).getD i 0 = (comp x k).getD i 0 at this
    rw [comp_at hi, comp_at (by omega)] at this
    exact gd_inj hx.1.nodup (by rw [hx.2, ← hn]; exact h1.1.lt _ (gd_mem hi)) (by rw [hx.2, ← hn]; exact h2.1.lt _ (gd_mem (by omega))) this
  · intro x y hx hy h hh k hkk e
    have h1 := mem.1 hh
    have h2 := mem.1 hkk
    have hu := undo_sym h1.1 h1.2
    have hc := comp_sym h2.1 hu.1 h2.2 hu.2
    refine ⟨comp k (undo a.n h), mem.2 hc, ?_⟩
    have e2 := congrArg (fun l => comp l (undo a.n h)) e
    change comp (comp y h) (undo a.n h) = comp (comp x k) (undo a.n h) at e2
    rw [comp_assoc (fun z hz => by rw [h1.2]; exact hu.1.lt z hz), comp_assoc (fun z hz => by rw [h2.2]; exact hu.1.lt z hz), comp_undo h1.1.nodup h1.2 h1.1.lt, comp_range (by rw [hy.2, hn])] at e2
    exact e2
  · intro x hx
    exact ⟨List.range a.n, mem.2 (id_sym a), comp_range (by rw [hx.2, hn])⟩
  · intro x hx h hh
    have h1 := mem.1 hx
    have h2 := sub h hh
    exact mem.2 (comp_sym h1.1 h2.1 h1.2 h2.2)
end Go.Proofs.YtmabpmkkleelaaaDoor.Gs
/- The program's hasElement, InSet, InRel at elements of a valid structure. Conditions: just that. -/
namespace Go.Proofs.YtmabpmkkleelaaaDoor
open Go.RowKit
set_option linter.unusedVariables false
set_option maxRecDepth 100000

theorem hasElement_in (n : Nat) (S R : ByteArray) (x : Nat) (hv : validB n S R = true) (hx : x < n) (w : World) :
    Calls Tryd.prog 122 #[strV n S R, .int .i64 (x : Int)] w fun e w' => e = .returned (.bool true) ∧ Below w.heap.size w w' := by
  obtain ⟨h1, h8, hS, hR, _, _⟩ := valid_is hv
  have HIS : Hid (∀ w, Calls Tryd.prog 77 #[strV n S R] w fun e w' => e = .returned (.bool true) ∧ Below w.heap.size w w') := fun w => by
    have := isStructure_any n S R w (by omega) (by rw [hR]; have := Nat.mul_le_mul h8 h8; omega)
    rw [hv] at this
    exact this
  have HB : Hid (SBlk (boxS w n S R) w.heap.size n S R ∧ Below w.heap.size w (boxS w n S R)) := ⟨boxS_SBlk _ _ _ _, boxS_below _ _ _ _⟩
  unfold boxS at HB
  have hxI : (x : Int) < (n : Int) := by omega
  have hx0 : (0 : Int) ≤ (x : Int) := by omega
  clear hv hS hR
  unfold strV at HIS
  unfold strV
  go_enter Tryd.func122, Tryd.ntmps122
  go_wp2_with fail
  refine (HIS.out _).mono ?_; rintro e w1 ⟨rfl, hb1⟩
  have HB1 := Lib.hid (And.intro (HB.out.1.below hb1 HB.out.1.cells.2.2.2.2.2.2) (HB.out.2.trans (hb1.mono HB.out.2.size)))
  clear hb1
  obtain ⟨s0, s1, s2, _, _, _, hl⟩ := HB1.out.1.cells
  go_wp2_with fail
  go_ret
  exact ⟨ret_bool (by simp), HB1.out.2⟩
theorem InSet_in (n : Nat) (S R : ByteArray) (x : Nat) (hv : validB n S R = true) (hx : x < n) (w : World) :
    Calls Tryd.prog 49 #[strV n S R, .int .i64 (x : Int)] w fun e w' => e = .returned (.bool (oneAt S x)) ∧ Below w.heap.size w w' := by
  obtain ⟨h1, h8, hS, hR, _, _⟩ := valid_is hv
  have HH := Lib.hid (fun w => hasElement_in n S R x hv hx w)
  have HI := Lib.hid (fun w => inSet_b n S R x w (by omega) (by omega))
  have HB : Hid (SBlk (boxS w n S R) w.heap.size n S R ∧ Below w.heap.size w (boxS w n S R)) := ⟨boxS_SBlk _ _ _ _, boxS_below _ _ _ _⟩
  unfold boxS at HB
  generalize oneAt S x = b at *
  clear hv hS hR
  unfold strV at HH HI
  unfold strV
  go_enter Tryd.func49, Tryd.ntmps49
  go_wp2_with fail
  refine (HH.out _).mono ?_; rintro e w1 ⟨rfl, hb1⟩
  have HB1 := Lib.hid (And.intro (HB.out.1.below hb1 HB.out.1.cells.2.2.2.2.2.2) (HB.out.2.trans (hb1.mono HB.out.2.size)))
  clear hb1
  obtain ⟨s0, s1, s2, _, _, _, hl⟩ := HB1.out.1.cells
  go_wp2_with fail
  refine (HI.out _).mono ?_; rintro e w2 ⟨rfl, hb2⟩
  have HB2 := Lib.hid (HB1.out.2.trans (hb2.mono HB1.out.2.size))
  clear hb2
  go_wp2_with fail
  go_ret
  exact ⟨ret_bool (by simp), HB2.out⟩
theorem InRel_in (n : Nat) (S R : ByteArray) (x y : Nat) (hv : validB n S R = true) (hx : x < n) (hy : y < n) (w : World) :
    Calls Tryd.prog 50 #[strV n S R, .int .i64 (x : Int), .int .i64 (y : Int)] w fun e w' => e = .returned (.bool (relAt n R x y)) ∧ Below w.heap.size w w' := by
  obtain ⟨h1, h8, hS, hR, _, _⟩ := valid_is hv
  have HH := Lib.hid (fun w => hasElement_in n S R x hv hx w)
  have HH2 := Lib.hid (fun w => hasElement_in n S R y hv hy w)
  have HI := Lib.hid (fun w => inRel_b n S R x y w hx hy h8 hR)
  have HB : Hid (SBlk (boxS w n S R) w.heap.size n S R ∧ Below w.heap.size w (boxS w n S R)) := ⟨boxS_SBlk _ _ _ _, boxS_below _ _ _ _⟩
  unfold boxS at HB
  generalize relAt n R x y = b at *
  clear hv hS hR
  unfold strV at HH HH2 HI
  unfold strV
  go_enter Tryd.func50, Tryd.ntmps50
  go_wp2_with fail
  refine (HH.out _).mono ?_; rintro e w1 ⟨rfl, hb1⟩
  have HB1 := Lib.hid (And.intro (HB.out.1.below hb1 HB.out.1.cells.2.2.2.2.2.2) (HB.out.2.trans (hb1.mono HB.out.2.size)))
  clear hb1
  obtain ⟨s0, s1, s2, _, _, _, hl⟩ := HB1.out.1.cells
  go_wp2_with fail
  refine (HH2.out _).mono ?_; rintro e w2 ⟨rfl, hb2⟩
  have HB2 := Lib.hid (And.intro (HB1.out.1.below hb2 HB1.out.1.cells.2.2.2.2.2.2) (HB1.out.2.trans (hb2.mono HB1.out.2.size)))
  clear hb2 s0 s1 s2 hl
  obtain ⟨s0, s1, s2, _, _, _, hl⟩ := HB2.out.1.cells
  go_wp2_with fail
  refine (HI.out _).mono ?_; rintro e w3 ⟨rfl, hb3⟩
  have HB3 := Lib.hid (HB2.out.2.trans (hb3.mono HB2.out.2.size))
  clear hb3
  go_wp2_with fail
  go_ret
  exact ⟨ret_bool (by simp), HB3.out⟩
end Go.Proofs.YtmabpmkkleelaaaDoor
/- The program's DefinedSet: the elements of which a formula is true. Condition: the texts' lengths fit an integer. -/
namespace Go.Proofs.YtmabpmkkleelaaaDoor
open Go.RowKit
set_option linter.unusedVariables false
set_option maxRecDepth 100000

/-- The first i elements' numbers of which it is true. -/
def defTo (a : Gs.St) (φ : Fm.T) (i : Nat) : List Nat := (List.range i).filter fun x => Fm.holds a φ (env2 x 0)
theorem defTo_succ (a : Gs.St) (φ : Fm.T) (i : Nat) : defTo a φ (i + 1) = if Fm.holds a φ (env2 i 0) then defTo a φ i ++ [i] else defTo a φ i := by
  unfold defTo
  rw [List.range_succ, List.filter_append]
  by_cases h : Fm.holds a φ (env2 i 0) = true
  · rw [if_pos h]; simp [h]
  · rw [if_neg h]; simp [h]
theorem defTo_length (a : Gs.St) (φ : Fm.T) (i : Nat) : (defTo a φ i).length ≤ i := by
  unfold defTo
  have := List.length_filter_le (fun x => Fm.holds a φ (env2 x 0)) (List.range i)
  simpa using this
theorem defTo_lt {a : Gs.St} {φ : Fm.T} {i x : Nat} (h : x ∈ defTo a φ i) : x < i := by
  unfold defTo at h
  rw [List.mem_filter, List.mem_range] at h
  exact h.1
theorem defTo_nodup (a : Gs.St) (φ : Fm.T) (i : Nat) : (defTo a φ i).Nodup := List.Pairwise.filter _ List.nodup_range
/-- The defined set. -/
def defSet (f : ByteArray) (n : Int) (S R : ByteArray) : Option (List Nat) :=
  match readB f with
  | none => none
  | some φ => if validB n S R = true ∧ Fm.free φ / 2 = 0 then some (defTo (stOf n.toNat S R) φ n.toNat) else none
theorem defSet_none {f : ByteArray} {n : Int} {S R : ByteArray} (h : readB f = none) : defSet f n S R = none := by unfold defSet; rw [h]
theorem defSet_some {f : ByteArray} {n : Int} {S R : ByteArray} {φ : Fm.T} (h : readB f = some φ) : defSet f n S R = if validB n S R = true ∧ Fm.free φ / 2 = 0 then some (defTo (stOf n.toNat S R) φ n.toNat) else none := by unfold defSet; rw [h]

/-- What the loop keeps. -/
structure Ds (w w5 : World) (F : Nat → Prop) (hb kb n : Nat) (S R : ByteArray) (φ : Fm.T) (p : Nat) (wr : World) (v : Value) (L : List Nat) : Prop where
  own : Own w5.heap.size wr v L
  base : ∃ G', Base F G' wr hb kb n S R ∧ (∀ b, G' b → w.heap.size ≤ b) ∧ ∀ k, v.ownBlock = some k → ¬ G' k
  tree : Tree F wr φ p
  low : ∀ b, F b → b < w5.heap.size
  old : Below w.heap.size w wr
  sz : w.heap.size ≤ w5.heap.size
section
variable {w w5 wr w' w3 : World} {F : Nat → Prop} {hb kb n : Nat} {S R : ByteArray} {φ : Fm.T} {p : Nat} {v v' : Value} {L L' : List Nat}
theorem Base.far {G H : Nat → Prop} (h : Base F G wr hb kb n S R) (hw : Off H wr w') (hF : ∀ b, F b → ¬ H b) (hG : ∀ b, G b → ¬ H b) : Base F G w' hb kb n S R :=
  ⟨(hw.block hb h.hold.cells.2.2.2.2 (hF _ h.foot)).trans h.hold, h.foot, h.memo.off hw hF hG, h.hS, h.hR, h.n1, h.n8⟩
theorem Ds.call {G' : Nat → Prop} {o : Obj} (h : Ds w w5 F hb kb n S R φ p wr v L) (hB : Base F G' wr hb kb n S R) (hl : ∀ b, G' b → w.heap.size ≤ b) (hk : ∀ k, v.ownBlock = some k → ¬ G' k)
    (hev : EverP F G' kb (stOf n S R) (wr.alloc o) w3) : Ds w w5 F hb kb n S R φ p w3 v L := by
  have al : Below wr.heap.size wr (wr.alloc o) := (Below.refl _ _).alloc (Nat.le_refl _) _
  have hB2 := hB.below al
  have hs : (wr.alloc o).heap.size = wr.heap.size + 1 := by simp
  have hso := h.old.size
  obtain ⟨G2, m2, hG2⟩ := hev.memo
  refine ⟨(h.own.below al).off hev.off hk, ⟨G2, hB2.ever hev m2, fun b hb => ?_, fun k hkv hg => ?_⟩, (h.tree.below al).ever hB2.memo hev, h.low, (h.old.trans (al.mono hso)).trans (hev.off.below (B := w.heap.size) (by omega) hl), h.sz⟩
  · rcases hG2 b hb with h1 | h1
    · exact hl b h1
    · omega
  · obtain ⟨k2, e2, _, l2⟩ := h.own.block
    rw [hkv] at e2
    obtain rfl := Option.some.inj e2
    rcases hG2 k hg with h1 | h1
    · exact hk k hkv h1
    · omega
theorem Ds.push (h : Ds w w5 F hb kb n S R φ p wr v L) (hown : Own w5.heap.size w' v' L') (hg : wr.grownBy w' v.ownBlock) (hat : v'.ownBlock = v.ownBlock ∨ ∃ k, v'.ownBlock = some k ∧ wr.heap.size ≤ k) : Ds w w5 F hb kb n S R φ p w' v' L' := by
  obtain ⟨G', hB, hl, hk⟩ := h.base
  obtain ⟨k1, e1, b1, l1⟩ := h.own.block
  have hoff : Off (fun b => v.ownBlock = some b) wr w' := Off.grown hg (fun b e => e)
  have hF : ∀ b, F b → ¬ v.ownBlock = some b := fun b hb e => by
    have := h.low b hb
    rw [e1] at e
    have := Option.some.inj e
    omega
  refine ⟨hown, ⟨G', hB.far hoff hF (fun b hb e => hk b e hb), hl, fun k hkv hg' => ?_⟩, h.tree.off hoff hF, h.low, h.old.trans (hoff.below (B := w.heap.size) h.old.size (fun b e => ?_)), h.sz⟩
  · rcases hat with h1 | ⟨k2, h1, h2⟩
    · exact hk k (h1 ▸ hkv) hg'
    · rw [h1] at hkv
      obtain rfl := Option.some.inj hkv
      have := hB.memo.lt _ hg'
      omega
  · rw [e1] at e
    have := Option.some.inj e
    have := h.sz
    omega
end
/-- What DefinedSet leaves. -/
def DefP (w : World) (r : Option (List Nat)) (e : Ending) (w' : World) : Prop :=
  Below w.heap.size w w' ∧ ((r = none ∧ ∃ v, e = .returned (.tuple #[v, .bool false]) ∧ NumsAt w' v []) ∨ ∃ v L, r = some L ∧ e = .returned (.tuple #[v, .bool true]) ∧ NumsAt w' v L)

set_option maxHeartbeats 1000000 in
theorem implDefined_any (f : ByteArray) (hf : f.size ≤ 9223372036854775807) (n : Int) (S R : ByteArray) (hS : S.size ≤ 9223372036854775807) (hR : R.size ≤ 9223372036854775807) (w : World) :
    Calls Tryd.prog 27 #[strV n S R, .string f] w (DefP w (defSet f n S R)) := by
  have HIS := Lib.hid (fun w => isStructure_any n S R w hS hR)
  have HNH := Lib.hid (fun (m : Nat) (hm : (m : Int) = n) (hv : validB n S R = true) F w hF => newHolder_any m S R (by rw [hm]; exact hv) F w hF)
  have HB : Hid (SBlk (boxS w n S R) w.heap.size n S R ∧ Below w.heap.size w (boxS w n S R)) := ⟨boxS_SBlk _ _ _ _, boxS_below _ _ _ _⟩
  obtain ⟨W, hW⟩ : ∃ W, boxS w n S R = W := ⟨_, rfl⟩
  rw [hW] at HB
  unfold boxS at hW
  obtain ⟨x3, hx3⟩ : ∃ x, w.heap.size = x := ⟨_, rfl⟩
  rw [hx3] at HB
  have HX3 := Lib.hid hx3
  have HW := Lib.hid hW
  clear hW hx3
  obtain ⟨RES, hres⟩ : ∃ r, defSet f n S R = r := ⟨_, rfl⟩
  rw [hres]
  unfold strV at HIS HNH
  unfold strV
  go_enter Tryd.func27, Tryd.ntmps27
  go_upto_region 1 with fail
  rw [HW.out, HX3.out]
  go_wp2_with fail
  refine (parseFormula_any f _ hf).mono ?_
  rintro en w2 ⟨hb2, hor⟩
  have HB2 : Hid (SBlk w2 x3 n S R ∧ Below w.heap.size w w2) := ⟨HB.out.1.below hb2 HB.out.1.cells.2.2.2.2.2.2, (by rw [HX3.out]; exact HB.out.2.trans (hb2.mono (by have := HB.out.2.size; rw [HX3.out] at this; exact this)))⟩
  clear hb2
  rcases hor with ⟨hr, rfl⟩ | ⟨φ, p, hr, rfl, ht⟩
  · have HP : Hid (DefP w RES (.returned (.tuple #[.slice none 0 0, .bool false])) w2) := ⟨HB2.out.2, .inl ⟨by rw [← hres]; exact defSet_none hr, _, rfl, NumsAt.nil _⟩⟩
    clear hr hres
    go_wp2_with fail
    go_ret2
    exact HP.out
  · have HI := Lib.hid (defSet_some (n := n) (S := S) (R := R) hr)
    rw [hres] at HI
    clear hr hres
    have HT := Lib.hid ht
    clear ht
    have s0 := HB2.out.1.cells.1
    have s1 := HB2.out.1.cells.2.1
    have s2 := HB2.out.1.cells.2.2.1
    unfold ptrV
    go_wp2_with fail
    refine (HIS.out _).mono ?_; rintro _ w3 ⟨rfl, hb3⟩
    have HB3 : Hid (SBlk w3 x3 n S R ∧ Below w.heap.size w w3) := ⟨HB2.out.1.below hb3 HB2.out.1.cells.2.2.2.2.2.2, HB2.out.2.trans (hb3.mono HB2.out.2.size)⟩
    have HT3 := Lib.hid (HT.out.below hb3)
    clear s0 s1 s2 hb3
    have s0 := HB3.out.1.cells.1
    have s1 := HB3.out.1.cells.2.1
    have s2 := HB3.out.1.cells.2.2.1
    obtain ⟨v, u, qs, nd, _⟩ := HT3.out.node
    have c3 := nd.cells.2.2.2.1
    have hfl := Fm.free_lt φ
    clear nd
    obtain ⟨fr, hfr⟩ : ∃ fr, Fm.free φ = fr := ⟨_, rfl⟩
    rw [hfr] at c3 hfl HI
    cases hv : validB n S R
    · have HP : Hid (DefP w RES (.returned (.tuple #[.slice none 0 0, .bool false])) w3) := ⟨HB3.out.2, .inl ⟨by rw [HI.out, hv]; simp, _, rfl, NumsAt.nil _⟩⟩
      clear hv
      go_wp2_with fail
      go_ret2
      exact HP.out
    · by_cases h0 : fr / 2 = 0
      · have HI2 : Hid (RES = some (defTo (stOf n.toNat S R) φ n.toNat)) := HI.out.trans (if_pos ⟨hv, h0⟩)
        have h0I : (fr : Int) / 2 = 0 := by omega
        obtain ⟨m, rfl⟩ : ∃ m : Nat, n = m := by
          simp only [validB, Bool.and_eq_true, inB_iff] at hv
          exact Int.eq_ofNat_of_zero_le (by omega)
        obtain ⟨h1, h8, hSm, hRm, _, _⟩ := valid_is hv
        rw [Int.toNat_natCast] at HI2
        have HNV := Lib.hid hv
        have HNH2 := Lib.hid (HNH.out m rfl hv)
        clear hv HI
        go_wp2_with fail
        refine (HNH2.out (fun b => W.heap.size ≤ b ∧ b < w3.heap.size) w3 (fun b hb => hb.2)).mono ?_
        rintro _ w5 ⟨hb, kb, rfl, hkb, hbase, hb5⟩
        have HD : Hid (Ds w w5 (fun b => (W.heap.size ≤ b ∧ b < w3.heap.size) ∨ b = hb) hb kb m S R φ p (w5.alloc (.cells #[] 3)) (.slice (some ⟨w5.heap.size, 0, none⟩) 0 0) (defTo (stOf m S R) φ 0)) := by
          have al : Below w5.heap.size w5 (w5.alloc (.cells #[] 3)) := (Below.refl _ _).alloc (Nat.le_refl _) _
          have hz := HB3.out.2.size
          have hz5 := hb5.size
          refine ⟨Own.lit0 _ w5 (Nat.le_refl _), ⟨fun b => b = kb, hbase.below al, fun b e => by subst e; omega, fun k hk e => ?_⟩, ((HT3.out.tight.below hb5).mono (fun b h => .inl h)).below al, fun b hb' => ?_, HB3.out.2.trans ((hb5.mono hz).trans (al.mono (by omega))), by omega⟩
          · have := hbase.memo.lt kb rfl
            have e1 : w5.heap.size = k := Option.some.inj hk
            omega
          · rcases hb' with h | h
            · omega
            · subst h; exact hbase.hold.cells.2.2.2.2
        have HSZ := Lib.hid (SBlk.below (SBlk.below HB3.out.1 hb5 HB3.out.1.cells.2.2.2.2.2.2) ((Below.refl w5.heap.size w5).alloc (Nat.le_refl _) (.cells #[] 3)) (SBlk.below HB3.out.1 hb5 HB3.out.1.cells.2.2.2.2.2.2).cells.2.2.2.2.2.2)
        have s5 := HSZ.out.cells.1
        clear s0 s1 s2 c3 hbase hb5 hkb
        unfold ptrV
        go_wp2_with fail
        go_loopw [32, 8] (fun i v wr => ∃ x : Nat, x ≤ m ∧ i = .int .i64 (x : Int) ∧ Hid (Ds w w5 (fun b => (W.heap.size ≤ b ∧ b < w3.heap.size) ∨ b = hb) hb kb m S R φ p wr v (defTo (stOf m S R) φ x))) (fun i _ _ => m - (intOf i).toNat)
        case atStart => exact ⟨0, by omega, rfl, HD.out⟩
        case round =>
          obtain ⟨x, hx, rfl, HI⟩ := hrel
          by_cases hlt : x < m
          · obtain ⟨G', hB, hl, hk⟩ := HI.out.base
            have al : Below wr.heap.size wr (wr.alloc (.cells #[.int .i64 (x : Int)] 3)) := (Below.refl _ _).alloc (Nat.le_refl _) _
            have HC := Lib.hid (holds_one φ _ G' (wr.alloc (.cells #[.int .i64 (x : Int)] 3)) hb kb m S R p wr.heap.size x (hB.below al) (HI.out.tree.below al) hlt (by simp))
            have HST := Lib.hid (fun w3 => HI.out.call (o := .cells #[.int .i64 (x : Int)] 3) (w3 := w3) hB hl hk)
            have HDS := Lib.hid (defTo_succ (stOf m S R) φ x)
            have HLL : Hid ((defTo (stOf m S R) φ x).length ≤ 2000000) := by have := defTo_length (stOf m S R) φ x; show _ ≤ _; omega
            clear hB hl hk al
            obtain ⟨b, hbv⟩ : ∃ b, Fm.holds (stOf m S R) φ (env2 x 0) = b := ⟨_, rfl⟩
            rw [hbv] at HC HDS
            clear hbv
            unfold ptrV at HC
            cases b
            · go_wp2_with fail
              refine HC.out.mono ?_; rintro _ w6 ⟨rfl, hev⟩
              have HI6 := Lib.hid (HST.out _ hev)
              clear hev
              go_wp2_with fail
              go_roundw
              case rel => exact ⟨x + 1, by omega, by go_num, by rw [HDS.out]; exact HI6.out⟩
              case measure => simp [intOf]; omega
            · go_wp2_with fail
              refine HC.out.mono ?_; rintro _ w6 ⟨rfl, hev⟩
              have HI6 := Lib.hid (HST.out _ hev)
              clear hev
              go_wp2_with (first | (at_builtin; refine wpList_own1at HI6.out.own HLL.out rfl (.tmp 40) (.tmp 42) rfl x _ rfl rfl rfl ?_; intro v' w' ho hg hat; have HI7 := Lib.hid (HI6.out.push ho hg hat); clear ho hg hat) | fail)
              go_roundw
              case rel => exact ⟨x + 1, by omega, by go_num, by rw [HDS.out]; exact HI7.out⟩
              case measure => simp [intOf]; omega
          · have hxm : x = m := by omega
            have HP : Hid (DefP w RES (.returned (.tuple #[u8, .bool true])) wr) := ⟨HI.out.old, .inr ⟨_, _, HI2.out, rfl, by have := HI.out.own.nums; rw [hxm] at this; exact this⟩⟩
            clear hxm
            go_wp2_with fail
            go_ret2
            exact HP.out
      · have HP : Hid (DefP w RES (.returned (.tuple #[.slice none 0 0, .bool false])) w3) := ⟨HB3.out.2, .inl ⟨by rw [HI.out]; exact if_neg (fun h => h0 h.2), _, rfl, NumsAt.nil _⟩⟩
        have h0I : ¬ (fr : Int) / 2 = 0 := by omega
        clear hv
        go_wp2_with fail
        go_ret2
        exact HP.out
end Go.Proofs.YtmabpmkkleelaaaDoor
/- The structure of some elements: the program's partOf, the reference's l1Has, l1Elements, l1Part, PartOf. Conditions: the structure is valid, the numbers are elements of it. -/
namespace Go.Proofs.YtmabpmkkleelaaaDoor
open Go.RowKit
set_option linter.unusedVariables false
set_option maxRecDepth 100000

/-- The structure of the elements L. -/
def partV (n : Nat) (S R : ByteArray) (L : List Nat) : Value := strV L.length (bitsOf (fun x => oneAt S (L.getD x 0)) L.length) (gridOf (fun x y => relAt n R (L.getD x 0) (L.getD y 0)) L.length)

theorem implPart1_any (n : Nat) (S R : ByteArray) (L : List Nat) (v : Value) (p q x : Nat) (W : World) (hn : n ≤ 8) (hS : S.size = n) (hL : ∀ j, j < L.length → L.getD j 0 < n) (hx : x < L.length) (hp : SBlk W p n S R) (hq : W.cell? ⟨q, 0, none⟩ = some v) (hv : NumsAt W v L) :
    Calls Tryd.prog 153 #[.int .i64 (x : Int), .pointer (some ⟨p, 0, none⟩), .pointer (some ⟨q, 0, none⟩)] W fun e w' => e = .returned (.bool (oneAt S (L.getD x 0))) ∧ Below W.heap.size W w' := by
  obtain ⟨a, cap, rfl, h1, h2, h3⟩ := hv.view
  obtain ⟨g, o, rfl, hg, hc⟩ := h3 (by omega)
  have d1 := hc x hx
  have hy := hL x hx
  obtain ⟨s0, s1, s2, _, _, _, _⟩ := hp.cells
  clear hv h3 hc hL hp
  generalize L.getD x 0 = y at *
  have HC := Lib.hid (fun w => inSet_b n S R y w (by omega) (by omega))
  unfold strV at HC
  unfold maxLen at h2
  have hxI : (x : Int) < (L.length : Int) := by omega
  go_enter Tryd.func153, Tryd.ntmps153
  go_wp2_with fail
  have f0 := fun s => Since.cell s0 s
  have f1 := fun s => Since.cell s1 s
  have f2 := fun s => Since.cell s2 s
  have f3 := fun s => Since.cell hq s
  have f4 := fun s => Since.cell d1 s
  refine wp_region_since (by kernel_rfl) (by kernel_rfl) ?_
  repeat (go_big_quiet_step ((with_reducible exact Since.call (HC.out _))))
  refine wpQuiet_nil ?_
  intro w1 hb1
  go_wp2_with fail
  go_ret
  exact ⟨rfl, hb1⟩
theorem implPart2_any (n : Nat) (S R : ByteArray) (L : List Nat) (v : Value) (p q x y : Nat) (W : World) (hn : n ≤ 8) (hR : R.size = n * n) (hL : ∀ j, j < L.length → L.getD j 0 < n) (hx : x < L.length) (hy : y < L.length) (hp : SBlk W p n S R) (hq : W.cell? ⟨q, 0, none⟩ = some v) (hv : NumsAt W v L) :
    Calls Tryd.prog 154 #[.int .i64 (x : Int), .int .i64 (y : Int), .pointer (some ⟨p, 0, none⟩), .pointer (some ⟨q, 0, none⟩)] W fun e w' => e = .returned (.bool (relAt n R (L.getD x 0) (L.getD y 0))) ∧ Below W.heap.size W w' := by
  obtain ⟨a, cap, rfl, h1, h2, h3⟩ := hv.view
  obtain ⟨g, o, rfl, hg, hc⟩ := h3 (by omega)
  have d1 := hc x hx
  have d2 := hc y hy
  have hx' := hL x hx
  have hy' := hL y hy
  obtain ⟨s0, s1, s2, _, _, _, _⟩ := hp.cells
  clear hv h3 hc hL hp
  generalize L.getD x 0 = xe at *
  generalize L.getD y 0 = ye at *
  have HC := Lib.hid (fun w => inRel_b n S R xe ye w hx' hy' hn hR)
  unfold strV at HC
  unfold maxLen at h2
  have hxI : (x : Int) < (L.length : Int) := by omega
  have hyI : (y : Int) < (L.length : Int) := by omega
  go_enter Tryd.func154, Tryd.ntmps154
  go_wp2_with fail
  have f0 := fun s => Since.cell s0 s
  have f1 := fun s => Since.cell s1 s
  have f2 := fun s => Since.cell s2 s
  have f3 := fun s => Since.cell hq s
  have f4 := fun s => Since.cell d1 s
  have f5 := fun s => Since.cell d2 s
  refine wp_region_since (by kernel_rfl) (by kernel_rfl) ?_
  repeat (go_big_quiet_step ((with_reducible exact Since.call (HC.out _))))
  refine wpQuiet_nil ?_
  intro w1 hb1
  go_wp2_with fail
  go_ret
  exact ⟨rfl, hb1⟩
theorem implPartOf_any (n : Nat) (S R : ByteArray) (L : List Nat) (v : Value) (w : World) (hn : n ≤ 8) (hS : S.size = n) (hR : R.size = n * n) (hl : L.length ≤ 8) (hL : ∀ j, j < L.length → L.getD j 0 < n) (hv : NumsAt w v L) :
    Calls Tryd.prog 87 #[strV n S R, v] w fun e w' => e = .returned (partV n S R L) ∧ Below w.heap.size w w' := by
  obtain ⟨a, cap, rfl, h1, h2, h3⟩ := hv.view
  have hm := fun W k1 k2 hk1 hk2 h1 h2 => makeStructure_any L.length hl k1 k2 #[.pointer (some ⟨w.heap.size, 0, none⟩), .pointer (some ⟨w.heap.size + 1, 0, none⟩)] #[.pointer (some ⟨w.heap.size, 0, none⟩), .pointer (some ⟨w.heap.size + 1, 0, none⟩)] (fun x => oneAt S (L.getD x 0)) (fun x y => relAt n R (L.getD x 0) (L.getD y 0)) W hk1 hk2 h1 h2
  have HM := Lib.hid hm; clear hm
  obtain ⟨W, hW⟩ : ∃ W, ((w.alloc (.cells #[.int .i64 (n : Int), .string S, .string R] 28)).alloc (.cells #[.slice a L.length cap] 35)).alloc (.cells #[.int .i64 0, .string ⟨#[]⟩, .string ⟨#[]⟩] 28) = W := ⟨_, rfl⟩
  have HT : Hid (SBlk W w.heap.size n S R ∧ W.cell? ⟨w.heap.size + 1, 0, none⟩ = some (.slice a L.length cap) ∧ SBlk W (w.heap.size + 2) 0 ByteArray.empty ByteArray.empty ∧ Below w.heap.size w W ∧ W.heap.size = w.heap.size + 3) := by
    have b1 := boxS_below w n S R
    have s1 := boxS_size w n S R
    have h1 := boxS_SBlk w n S R
    have hB : Below (boxS w n S R).heap.size (boxS w n S R) (((boxS w n S R).alloc (.cells #[.slice a L.length cap] 35)).alloc (.cells #[.int .i64 0, .string ByteArray.empty, .string ByteArray.empty] 28)) := ((Below.refl _ _).alloc (Nat.le_refl _) _).alloc (by simp) _
    have h3 := SBlk.new ((boxS w n S R).alloc (.cells #[.slice a L.length cap] 35)) 0 ByteArray.empty ByteArray.empty
    have h2 : ((boxS w n S R).alloc (.cells #[.slice a L.length cap] 35)).cell? ⟨(boxS w n S R).heap.size, 0, none⟩ = some (.slice a L.length cap) := by unfold World.cell?; rw [heap_alloc_new]; rfl
    have h2' := (Below.cell ((Below.refl ((boxS w n S R).alloc (.cells #[.slice a L.length cap] 35)).heap.size _).alloc (Nat.le_refl _) (.cells #[.int .i64 0, .string ByteArray.empty, .string ByteArray.empty] 28)) (World.block_lt_of_cell? _ _ h2)).trans h2
    have hW2 : ((boxS w n S R).alloc (.cells #[.slice a L.length cap] 35)).alloc (.cells #[.int .i64 0, .string ByteArray.empty, .string ByteArray.empty] 28) = W := hW
    rw [hW2] at hB h3 h2'
    rw [s1] at h2'
    simp only [World.size_alloc, s1] at h3
    refine ⟨h1.below hB h1.cells.2.2.2.2.2.2, h2', h3, b1.trans (hB.mono b1.size), ?_⟩
    rw [← hW2]
    simp [s1]
  have HV := Lib.hid (hv.below HT.out.2.2.2.1)
  have HW := Lib.hid hW
  clear hv h3 hW
  have HL := Lib.hid hL
  clear hL
  unfold partV
  obtain ⟨TS, hA⟩ : ∃ T, bitsOf (fun x => oneAt S (L.getD x 0)) L.length = T := ⟨_, rfl⟩
  obtain ⟨TR, hG⟩ : ∃ T, gridOf (fun x y => relAt n R (L.getD x 0) (L.getD y 0)) L.length = T := ⟨_, rfl⟩
  rw [hA, hG] at HM ⊢
  clear hA hG
  obtain ⟨s0, s1, s2, _, _, _, _⟩ := HT.out.1.cells
  have q0 := HT.out.2.1
  unfold maxLen at h2
  unfold strV
  go_enter Tryd.func87, Tryd.ntmps87
  go_upto_region 1 with fail
  rw [HW.out]
  go_wp2_with fail
  refine (HM.out _ _ _ (fun _ _ => by kernel_rfl) (fun _ _ => by kernel_rfl) (fun x W' hx hb => implPart1_any n S R L _ w.heap.size (w.heap.size + 1) x W' hn hS HL.out hx (HT.out.1.below hb HT.out.1.cells.2.2.2.2.2.2) ((hb.cell (World.block_lt_of_cell? _ _ HT.out.2.1)).trans HT.out.2.1) (HV.out.below hb)) (fun x y W' hx hy hb => implPart2_any n S R L _ w.heap.size (w.heap.size + 1) x y W' hn hR HL.out hx hy (HT.out.1.below hb HT.out.1.cells.2.2.2.2.2.2) ((hb.cell (World.block_lt_of_cell? _ _ HT.out.2.1)).trans HT.out.2.1) (HV.out.below hb))).mono ?_
  rintro e w1 ⟨rfl, hb⟩
  have HB1 := Lib.hid (HT.out.2.2.2.1.trans (hb.mono HT.out.2.2.2.1.size))
  have HR1 := Lib.hid (HT.out.2.2.1.below hb HT.out.2.2.1.cells.2.2.2.2.2.2)
  clear hb s0 s1 s2 q0
  obtain ⟨d0, d1, d2, g0, g1, g2, hl'⟩ := HR1.out.cells
  unfold strV
  go_wp2_with fail
  refine bodyPost_ret (v := strV L.length TS TR) ?_ rfl ⟨rfl, ?_⟩
  · exact results_str rfl rfl HR1.out.set3
  · exact ((HB1.out.setCell (by simp; omega) _).setCell (by simp; omega) _).setCell (by simp; omega) _
end Go.Proofs.YtmabpmkkleelaaaDoor
/- The reference's Interpret, where it is answered. Conditions: the structure is valid, the texts are formulas of one variable and of two. -/
namespace Go.Proofs.YtmabpmkkleelaaaDoor
open Go.RowKit
set_option linter.unusedVariables false
set_option maxRecDepth 100000

/-- What the loop of the reference's Interpret keeps. -/
structure Is (w : World) (x8 : Nat) (wr : World) (n : Nat) (S R RR acc : ByteArray) : Prop where
  a : SBlk wr w.heap.size n S R
  res : SBlk wr (w.heap.size + 1) 0 ByteArray.empty ByteArray.empty
  out : SBlk wr x8 n acc RR
  high : w.heap.size + 2 ≤ x8
  old : Below w.heap.size w wr
section
variable {w wr w' : World} {x8 n : Nat} {S R RR acc : ByteArray}
theorem Is.below (h : Is w x8 wr n S R RR acc) (hb : Below wr.heap.size wr w') : Is w x8 w' n S R RR acc :=
  ⟨h.a.below hb h.a.cells.2.2.2.2.2.2, h.res.below hb h.res.cells.2.2.2.2.2.2, h.out.below hb h.out.cells.2.2.2.2.2.2, h.high, h.old.trans (hb.mono h.old.size)⟩
theorem Is.drew (h : Is w x8 wr n S R RR acc) : Is w x8 wr.drew n S R RR acc := ⟨h.a, h.res, h.out, h.high, h.old.drew⟩
theorem Is.set1 (h : Is w x8 wr n S R RR acc) (S' : ByteArray) : Is w x8 (wr.setCell ⟨x8, 1, none⟩ (.string S')) n S R RR S' := by
  have hh := h.high
  exact ⟨h.a.far (by simp; omega) _, h.res.far (by simp; omega) _, h.out.set1, hh, h.old.setCell (by simp; omega) _⟩
theorem Is.mk0 (a : SBlk wr w.heap.size n S R) (res : SBlk wr (w.heap.size + 1) 0 ByteArray.empty ByteArray.empty) (old : Below w.heap.size w wr) (hs : w.heap.size + 2 ≤ wr.heap.size) :
    Is w wr.heap.size (wr.alloc (.cells #[.int .i64 (n : Int), .string acc, .string RR] 28)) n S R RR acc := by
  have hb : Below wr.heap.size wr (wr.alloc (.cells #[.int .i64 (n : Int), .string acc, .string RR] 28)) := (Below.refl _ _).alloc (Nat.le_refl _) _
  exact ⟨a.below hb a.cells.2.2.2.2.2.2, res.below hb res.cells.2.2.2.2.2.2, SBlk.new wr n acc RR, hs, old.trans (hb.mono old.size)⟩
theorem Is.mk1 {x : Nat} {m : Int} {A B : ByteArray} (a : SBlk wr w.heap.size n S R) (res : SBlk wr (w.heap.size + 1) 0 ByteArray.empty ByteArray.empty) (old : Below w.heap.size w wr) (out : SBlk wr x m A B) (hs : w.heap.size + 2 ≤ x) :
    Is w x (((wr.setCell ⟨x, 0, none⟩ (.int .i64 (n : Int))).setCell ⟨x, 1, none⟩ (.string acc)).setCell ⟨x, 2, none⟩ (.string RR)) n S R RR acc :=
  ⟨((a.far (by simp; omega) _).far (by simp; omega) _).far (by simp; omega) _, ((res.far (by simp; omega) _).far (by simp; omega) _).far (by simp; omega) _, out.set3, hs, ((old.setCell (by simp; omega) _).setCell (by simp; omega) _).setCell (by simp; omega) _⟩
end
set_option maxHeartbeats 2000000 in
theorem specInterpret_yes (f g : ByteArray) (n : Nat) (S R : ByteArray) (hv : validB n S R = true) (φ ψ : Fm.T) (hf : readB f = some φ) (hg : readB g = some ψ) (o1 : okV f 2 = true) (o2 : okV g 4 = true) (w : World) :
    Calls Tryd.prog 52 #[strV n S R, .string f, .string g] w fun en w' => en = .returned (.tuple #[strV n (bitsOf (fun x => Fm.holds (stOf n S R) φ (env2 x 0)) n) (gridOf (fun x y => Fm.holds (stOf n S R) ψ (env2 x y)) n), .bool true]) ∧ Below w.heap.size w w' := by
  obtain ⟨h1, h8, hS, hR, _, _⟩ := valid_is hv
  have a1 := readB_at hf
  have a2 := readB_at hg
  have HSV : Hid (∀ w, Calls Tryd.prog 113 #[strV n S R] w fun e w' => e = .returned (.bool true) ∧ Below w.heap.size w w') := fun w => by
    have := specValid_any n S R w (by omega) (by rw [hR]; have := Nat.mul_le_mul h8 h8; omega)
    rw [hv] at this
    exact this
  have HV1 : Hid (∀ w, Calls Tryd.prog 72 #[.string f, .int .i64 1] w fun en w' => en = .returned (.bool true) ∧ w' = w) := fun w => by
    rw [← o1]; exact l11View_1 f (by have := a1.2; omega) w
  have HV2 : Hid (∀ w, Calls Tryd.prog 72 #[.string g, .int .i64 2] w fun en w' => en = .returned (.bool true) ∧ w' = w) := fun w => by
    rw [← o2]; exact l11View_2 g (by have := a2.2; omega) w
  have HRL := Lib.hid (fun w => l3Rel_any g (by have := a2.2; omega) n S R h8 hS hR ψ a2.1 w)
  have hlt := fun x w (hx : x < n) => l2True_any f (by have := a1.2; omega) n S R h8 hS hR φ a1.1 (env2 x 0) (env2_lt hx (by omega)) w
  simp only [env2_V] at hlt
  have HLT := Lib.hid hlt
  clear hlt a1 a2 hf hg o1 o2 hv
  generalize gridOf (fun x y => Fm.holds (stOf n S R) ψ (env2 x y)) n = RR at *
  obtain ⟨b, hbf⟩ : ∃ b : Nat → Bool, (fun x => Fm.holds (stOf n S R) φ (env2 x 0)) = b := ⟨_, rfl⟩
  have HBB : Hid (∀ x, Fm.holds (stOf n S R) φ (env2 x 0) = b x) := fun x => by rw [← hbf]
  rw [hbf]
  clear hbf
  have HT : Hid (SBlk ((boxS w n S R).alloc (.cells #[.int .i64 0, .string ByteArray.empty, .string ByteArray.empty] 28)) w.heap.size n S R ∧ SBlk ((boxS w n S R).alloc (.cells #[.int .i64 0, .string ByteArray.empty, .string ByteArray.empty] 28)) (w.heap.size + 1) 0 ByteArray.empty ByteArray.empty ∧ Below w.heap.size w ((boxS w n S R).alloc (.cells #[.int .i64 0, .string ByteArray.empty, .string ByteArray.empty] 28))) := by
    have hB : Below (boxS w n S R).heap.size (boxS w n S R) ((boxS w n S R).alloc (.cells #[.int .i64 0, .string ByteArray.empty, .string ByteArray.empty] 28)) := (Below.refl _ _).alloc (Nat.le_refl _) _
    refine ⟨(boxS_SBlk w n S R).below hB (boxS_SBlk w n S R).cells.2.2.2.2.2.2, ?_, (boxS_below w n S R).trans (hB.mono (boxS_below w n S R).size)⟩
    have h := SBlk.new (boxS w n S R) 0 ByteArray.empty ByteArray.empty
    rw [boxS_size] at h
    exact h
  unfold boxS at HT
  unfold strV at HSV HRL HLT
  unfold strV
  have s0 := HT.out.1.cells.1
  have s1 := HT.out.1.cells.2.1
  have s2 := HT.out.1.cells.2.2.1
  go_enter Tryd.func52, Tryd.ntmps52
  go_wp2_with fail
  refine (HSV.out _).mono ?_; rintro _ w1 ⟨rfl, hb⟩
  have HT1 : Hid (SBlk w1 w.heap.size n S R ∧ SBlk w1 (w.heap.size + 1) 0 ByteArray.empty ByteArray.empty ∧ Below w.heap.size w w1) := ⟨HT.out.1.below hb HT.out.1.cells.2.2.2.2.2.2, HT.out.2.1.below hb HT.out.2.1.cells.2.2.2.2.2.2, HT.out.2.2.trans (hb.mono HT.out.2.2.size)⟩
  clear hb s0 s1 s2
  have s0 := HT1.out.1.cells.1
  have s1 := HT1.out.1.cells.2.1
  have s2 := HT1.out.1.cells.2.2.1
  go_wp2_with fail
  refine (HV1.out _).mono ?_; rintro _ wv ⟨rfl, hwv⟩; rw [hwv]; clear hwv wv
  go_wp2_with fail
  refine (HV2.out _).mono ?_; rintro _ wv ⟨rfl, hwv⟩; rw [hwv]; clear hwv wv
  clear HV1 HV2 HSV
  go_upto_region 3 with fail
  go_cut [8] (fun v wx => ∃ x8 : Nat, v = .pointer (some ⟨x8, 0, none⟩) ∧ Hid (Is w x8 wx n S R RR ByteArray.empty))
  case first =>
    have hZ : Below w1.heap.size w1 (w1.alloc (.cells #[.int .i64 0, .string (⟨#[]⟩ : ByteArray), .string (⟨#[]⟩ : ByteArray)] 28)) := (Below.refl _ _).alloc (Nat.le_refl _) _
    have HZ : Hid (SBlk (w1.alloc (.cells #[.int .i64 0, .string (⟨#[]⟩ : ByteArray), .string (⟨#[]⟩ : ByteArray)] 28)) w.heap.size n S R ∧ SBlk (w1.alloc (.cells #[.int .i64 0, .string (⟨#[]⟩ : ByteArray), .string (⟨#[]⟩ : ByteArray)] 28)) (w.heap.size + 1) 0 ⟨#[]⟩ ⟨#[]⟩ ∧ Below w.heap.size w (w1.alloc (.cells #[.int .i64 0, .string (⟨#[]⟩ : ByteArray), .string (⟨#[]⟩ : ByteArray)] 28)) ∧ SBlk (w1.alloc (.cells #[.int .i64 0, .string (⟨#[]⟩ : ByteArray), .string (⟨#[]⟩ : ByteArray)] 28)) w1.heap.size 0 ⟨#[]⟩ ⟨#[]⟩) :=
      ⟨HT1.out.1.below hZ HT1.out.1.cells.2.2.2.2.2.2, HT1.out.2.1.below hZ HT1.out.2.1.cells.2.2.2.2.2.2, HT1.out.2.2.trans (hZ.mono HT1.out.2.2.size), SBlk.new w1 0 ⟨#[]⟩ ⟨#[]⟩⟩
    clear hZ
    have HS1 : Hid (w.heap.size + 2 ≤ w1.heap.size) := HT1.out.2.1.cells.2.2.2.2.2.2
    obtain ⟨z0, z1, z2, _, _, _, _⟩ := HZ.out.1.cells
    go_region_with (first | ((with_reducible refine (HRL.out _).mono ?_); rintro e w2 ⟨rfl, hb2⟩; have HT2 : Hid (SBlk w2 w.heap.size n S R ∧ SBlk w2 (w.heap.size + 1) 0 ByteArray.empty ByteArray.empty ∧ Below w.heap.size w w2) := ⟨HT1.out.1.drew.below hb2 HT1.out.1.drew.cells.2.2.2.2.2.2, HT1.out.2.1.drew.below hb2 HT1.out.2.1.drew.cells.2.2.2.2.2.2, HT1.out.2.2.drew.trans (hb2.mono HT1.out.2.2.drew.size)⟩; have HIS := Lib.hid (Is.mk0 (RR := RR) (acc := ByteArray.empty) HT2.out.1 HT2.out.2.1 HT2.out.2.2 (Nat.le_trans HS1.out hb2.size)); clear hb2; obtain ⟨i0, i1, i2, j0, j1, j2, hbb⟩ := HT2.out.1.cells) | ((with_reducible refine (HRL.out _).mono ?_); rintro e w2 ⟨rfl, hb2⟩; have HT3 : Hid (SBlk w2 w.heap.size n S R ∧ SBlk w2 (w.heap.size + 1) 0 ByteArray.empty ByteArray.empty ∧ Below w.heap.size w w2 ∧ SBlk w2 w1.heap.size 0 ByteArray.empty ByteArray.empty) := ⟨HZ.out.1.drew.below hb2 HZ.out.1.drew.cells.2.2.2.2.2.2, HZ.out.2.1.drew.below hb2 HZ.out.2.1.drew.cells.2.2.2.2.2.2, HZ.out.2.2.1.drew.trans (hb2.mono HZ.out.2.2.1.drew.size), HZ.out.2.2.2.drew.below hb2 HZ.out.2.2.2.drew.cells.2.2.2.2.2.2⟩; have HIS := Lib.hid (Is.mk1 (RR := RR) (acc := ByteArray.empty) HT3.out.1 HT3.out.2.1 HT3.out.2.2.1 HT3.out.2.2.2 HS1.out); clear hb2; obtain ⟨i0, i1, i2, j0, j1, j2, hbb⟩ := HT3.out.1.cells; obtain ⟨k0, k1, k2, l0, l1, l2, lbb⟩ := HT3.out.2.2.2.cells))
    all_goals
      go_wp2_with fail
      go_meet
      exact ⟨_, rfl, HIS.out⟩
  case rest =>
    obtain ⟨x8, rfl, HI⟩ := hcut
    have HI0 : Hid (Is w x8 wc n S R RR (bitsOf b 0)) := by show Is _ _ _ _ _ _ _ _; rw [bitsOf_zero]; exact HI.out
    clear HI s0 s1 s2
    go_wp2_with fail
    go_loopw [9] (fun i wr => ∃ x : Nat, x ≤ n ∧ i = .int .i64 (x : Int) ∧ Hid (Is w x8 wr n S R RR (bitsOf b x))) (fun i _ => n - (intOf i).toNat)
    case atStart => exact ⟨0, by omega, rfl, HI0.out⟩
    case round =>
      obtain ⟨x, hx, rfl, HI⟩ := hrel
      obtain ⟨s0, s1, s2, _, _, _, _⟩ := HI.out.a.cells
      by_cases hlt : x < n
      · obtain ⟨c0, c1', c2', f0, f1, f2, hb⟩ := HI.out.out.cells
        have z0 : (bitsOf b x).size ≤ 8 := by rw [bitsOf_size]; omega
        have z1 : (bitS (b x)).size ≤ 1 := Nat.le_refl _
        have HL1 : Hid (∀ W, Calls Tryd.prog 125 #[.agg #[.int .i64 (n : Int), .string S, .string R], .string f, .agg #[.int .i64 (x : Int), .int .i64 0, .int .i64 0, .int .i64 0]] W fun en w' => en = .returned (.bool (Fm.holds (stOf n S R) φ (env2 x 0))) ∧ Below W.heap.size W w') := fun w => HLT.out x w hlt
        rw [HBB.out x] at HL1
        have HG := Lib.hid (bitsOf_succ b x)
        generalize hbit : b x = bt at *
        clear hbit
        go_wp2_with fail
        go_region_with (first | (go_at_call 124; refine (l1Bit_any bt _).mono ?_; rintro e w' ⟨rfl, rfl⟩) | ((with_reducible refine (HL1.out _).mono ?_); rintro e w2 ⟨rfl, hb1⟩; have HI1 := Lib.hid (HI.out.drew.below hb1); obtain ⟨i0, i1, i2, j0, j1, j2, hbb⟩ := HI1.out.out.cells; clear hb1))
        all_goals
          have HI2 := Lib.hid (HI1.out.set1 (bitsOf b x ++ bitS bt))
          go_wp2_with fail
          go_roundw
          case rel =>
            refine ⟨x + 1, by omega, by go_num, ?_⟩
            rw [HG.out]
            exact HI2.out
          case measure => simp [intOf]; omega
      · have HE : Hid (Is w x8 wr n S R RR (bitsOf b n)) := by
          have h := HI.out
          rw [show x = n by omega] at h
          exact h
        obtain ⟨c0, c1', c2', f0, f1, f2, hb⟩ := HE.out.out.cells
        obtain ⟨d0, d1, d2, g0, g1, g2, hb'⟩ := HE.out.res.cells
        clear HI
        go_wp2_with fail
        refine bodyPost_ret (v := .tuple #[strV n (bitsOf b n) RR, .bool true]) ?_ rfl ⟨rfl, ?_⟩
        · exact results_str2 rfl rfl HE.out.res.set3 rfl
        · exact ((HE.out.old.setCell (by simp) _).setCell (by simp) _).setCell (by simp) _
end Go.Proofs.YtmabpmkkleelaaaDoor
/- The law FnExactInterpret: both answer alike. Conditions: the texts' lengths fit an integer. -/
namespace Go.Proofs.YtmabpmkkleelaaaDoor
open Go.RowKit
set_option linter.unusedVariables false
set_option maxRecDepth 100000

theorem view_ok {f g : ByteArray} {φ ψ : Fm.T} (h : viewB f g = some (φ, ψ)) : readB f = some φ ∧ readB g = some ψ ∧ okV f 2 = true ∧ okV g 4 = true := by
  unfold viewB at h
  cases hf : readB f with
  | none => rw [hf] at h; cases h
  | some φ' =>
    cases hg : readB g with
    | none => rw [hf, hg] at h; cases h
    | some ψ' =>
      rw [hf, hg] at h
      simp only at h
      by_cases hz : Fm.free φ' / 2 = 0 ∧ Fm.free ψ' / 4 = 0
      · rw [if_pos hz] at h
        injection h with h
        injection h with h1 h2
        subst h1; subst h2
        exact ⟨rfl, rfl, by rw [okV_some hf, decide_eq_true_iff]; exact hz.1, by rw [okV_some hg, decide_eq_true_iff]; exact hz.2⟩
      · rw [if_neg hz] at h; cases h
theorem view_no {f g : ByteArray} (h : viewB f g = none) : okV f 2 = false ∨ okV g 4 = false := by
  unfold viewB at h
  cases hf : readB f with
  | none => exact .inl (okV_none hf)
  | some φ' =>
    cases hg : readB g with
    | none => exact .inr (okV_none hg)
    | some ψ' =>
      rw [hf, hg] at h
      simp only at h
      by_cases hz : Fm.free φ' / 2 = 0 ∧ Fm.free ψ' / 4 = 0
      · rw [if_pos hz] at h; cases h
      · by_cases h1 : Fm.free φ' / 2 = 0
        · exact .inr (by rw [okV_some hg, decide_eq_false_iff_not]; exact fun h2 => hz ⟨h1, h2⟩)
        · exact .inl (by rw [okV_some hf, decide_eq_false_iff_not]; exact h1)
/-- The reference's Interpret, where it is not answered. -/
theorem specInterpret_no (f g : ByteArray) (hf : f.size ≤ 9223372036854775807) (hg : g.size ≤ 9223372036854775807) (n : Int) (S R : ByteArray) (hS : S.size ≤ 9223372036854775807) (hR : R.size ≤ 9223372036854775807) (hno : validB n S R = false ∨ okV f 2 = false ∨ okV g 4 = false) (w : World) :
    Calls Tryd.prog 52 #[strV n S R, .string f, .string g] w fun en w' => en = .returned (.tuple #[strV 0 ByteArray.empty ByteArray.empty, .bool false]) ∧ Below w.heap.size w w' := by
  have HSV := Lib.hid (fun w => specValid_any n S R w hS hR)
  have HV1 := Lib.hid (fun w => l11View_1 f hf w)
  have HV2 := Lib.hid (fun w => l11View_2 g hg w)
  have HB := Lib.hid (BoxR.first w n S R)
  unfold boxS at HB
  obtain ⟨W, hW⟩ : ∃ W, (w.alloc (.cells #[.int .i64 n, .string S, .string R] 28)).alloc (.cells #[.int .i64 0, .string ⟨#[]⟩, .string ⟨#[]⟩] 28) = W := ⟨_, rfl⟩
  replace HB : Hid (BoxR w W n S R) := by rw [← hW]; exact HB.out
  have HW := Lib.hid hW
  clear hW
  unfold strV at HSV
  unfold strV
  obtain ⟨s0, s1, s2, _, _, _, hl⟩ := HB.out.a.cells
  generalize validB n S R = b1 at *
  generalize okV f 2 = b2 at *
  generalize okV g 4 = b3 at *
  cases b1
  · clear hno
    go_enter Tryd.func52, Tryd.ntmps52
    go_upto_region 1 with fail
    rw [HW.out]
    go_wp2_with fail
    refine (HSV.out _).mono ?_; rintro _ w3 ⟨rfl, hb3⟩
    have HB3 := Lib.hid (HB.out.below hb3)
    clear hb3 s0 s1 s2 hl
    obtain ⟨d0, d1, d2, g0, g1, g2, hl⟩ := HB3.out.res.cells
    go_wp2_with fail
    refine bodyPost_ret (v := .tuple #[strV 0 ByteArray.empty ByteArray.empty, .bool false]) ?_ rfl ⟨rfl, ?_⟩
    · exact results_str2 rfl rfl HB3.out.res.set3 rfl
    · exact HB3.out.fin _ _ _
  · cases b2
    · clear hno
      go_enter Tryd.func52, Tryd.ntmps52
      go_upto_region 1 with fail
      rw [HW.out]
      go_wp2_with fail
      refine (HSV.out _).mono ?_; rintro _ w3 ⟨rfl, hb3⟩
      have HB3 := Lib.hid (HB.out.below hb3)
      clear hb3 s0 s1 s2 hl
      obtain ⟨d0, d1, d2, g0, g1, g2, hl⟩ := HB3.out.res.cells
      go_wp2_with fail
      refine (HV1.out _).mono ?_; rintro _ wv ⟨rfl, hwv⟩; rw [hwv]; clear hwv wv
      go_wp2_with fail
      refine bodyPost_ret (v := .tuple #[strV 0 ByteArray.empty ByteArray.empty, .bool false]) ?_ rfl ⟨rfl, ?_⟩
      · exact results_str2 rfl rfl HB3.out.res.set3 rfl
      · exact HB3.out.fin _ _ _
    · have hb3 : b3 = false := by
        rcases hno with h | h | h
        · cases h
        · cases h
        · exact h
      subst hb3
      clear hno
      go_enter Tryd.func52, Tryd.ntmps52
      go_upto_region 1 with fail
      rw [HW.out]
      go_wp2_with fail
      refine (HSV.out _).mono ?_; rintro _ w3 ⟨rfl, hb3⟩
      have HB3 := Lib.hid (HB.out.below hb3)
      clear hb3 s0 s1 s2 hl
      obtain ⟨d0, d1, d2, g0, g1, g2, hl⟩ := HB3.out.res.cells
      go_wp2_with fail
      refine (HV1.out _).mono ?_; rintro _ wv ⟨rfl, hwv⟩; rw [hwv]; clear hwv wv
      go_wp2_with fail
      refine (HV2.out _).mono ?_; rintro _ wv ⟨rfl, hwv⟩; rw [hwv]; clear hwv wv
      go_wp2_with fail
      refine bodyPost_ret (v := .tuple #[strV 0 ByteArray.empty ByteArray.empty, .bool false]) ?_ rfl ⟨rfl, ?_⟩
      · exact results_str2 rfl rfl HB3.out.res.set3 rfl
      · exact HB3.out.fin _ _ _
/-- Both answer alike. -/
theorem interpret_both (f g : ByteArray) (hf : f.size ≤ 9223372036854775807) (hg : g.size ≤ 9223372036854775807) (n : Int) (S R : ByteArray) (hS : S.size ≤ 9223372036854775807) (hR : R.size ≤ 9223372036854775807) :
    ∃ N T U b, (∀ w, Calls Tryd.prog 52 #[strV n S R, .string f, .string g] w fun en w' => en = .returned (.tuple #[strV N T U, .bool b]) ∧ Below w.heap.size w w') ∧
      ∀ w, Calls Tryd.prog 21 #[strV n S R, .string f, .string g] w fun en w' => en = .returned (.tuple #[strV N T U, .bool b]) ∧ Below w.heap.size w w' := by
  cases hv : validB n S R
  · exact ⟨0, _, _, false, fun w => specInterpret_no f g hf hg n S R hS hR (.inl hv) w, fun w => implInterpret_no f g hf hg n S R hS hR hv w⟩
  · obtain ⟨m, rfl⟩ : ∃ m : Nat, n = m := by
      simp only [validB, Bool.and_eq_true, inB_iff] at hv
      exact Int.eq_ofNat_of_zero_le (by omega)
    cases hr : viewB f g with
    | none =>
      refine ⟨0, _, _, false, fun w => specInterpret_no f g hf hg m S R hS hR (.inr (view_no hr)) w, fun w => ?_⟩
      have := implInterpret_yes f g hf hg m S R hv w
      rw [intRes_none hr] at this
      exact this
    | some p =>
      obtain ⟨φ, ψ⟩ := p
      obtain ⟨r1, r2, o1, o2⟩ := view_ok hr
      refine ⟨_, _, _, true, fun w => specInterpret_yes f g m S R hv φ ψ r1 r2 o1 o2 w, fun w => ?_⟩
      have := implInterpret_yes f g hf hg m S R hv w
      rw [intRes_some hr] at this
      exact this
end Go.Proofs.YtmabpmkkleelaaaDoor
/- The program's DefinedRel and TurnStructure of a structure; gsHas. Conditions: those that each states. -/
namespace Go.Proofs.YtmabpmkkleelaaaDoor
open Go.RowKit
set_option linter.unusedVariables false
set_option maxRecDepth 100000

theorem defrel1_any (φ : Fm.T) (F G : Nat → Prop) (w : World) (hb kb n : Nat) (S R : ByteArray) (p bh bf x y : Nat) (hB : Base F G w hb kb n S R) (hT : Tree F w φ p) (hx : x < n) (hy : y < n) (c1 : w.cell? ⟨bh, 0, none⟩ = some (ptrV hb)) (c2 : w.cell? ⟨bf, 0, none⟩ = some (ptrV p)) :
    Calls Tryd.prog 126 #[.int .i64 (x : Int), .int .i64 (y : Int), .pointer (some ⟨bh, 0, none⟩), .pointer (some ⟨bf, 0, none⟩)] w fun en w' => en = .returned (.bool (Fm.holds (stOf n S R) φ (env2 x y))) ∧ EverP F G kb (stOf n S R) w w' := by
  have hbel : Below w.heap.size w (w.alloc (.cells #[.int .i64 (x : Int), .int .i64 (y : Int)] 3)) := (Below.refl w.heap.size w).alloc (Nat.le_refl _) _
  have hA := heap_alloc_new w (.cells #[.int .i64 (x : Int), .int .i64 (y : Int)] 3)
  have HC := Lib.hid (holds_two φ F G _ hb kb n S R p w.heap.size x y (hB.below hbel) (hT.below hbel) hx hy (by unfold World.cell?; rw [hA]; rfl) (by unfold World.cell?; rw [hA]; rfl))
  have HE := Lib.hid (EverP.of_below hB.memo hbel)
  clear hB hT hA hbel
  unfold ptrV at HC c1 c2
  go_enter Tryd.func126, Tryd.ntmps126
  go_wp2_with fail
  refine HC.out.mono ?_; rintro _ w1 ⟨rfl, hev⟩
  have HEND := Lib.hid (HE.out.then (fun b hb => .inl hb) hev)
  clear hev
  go_wp2_with fail
  go_ret
  exact ⟨rfl, HEND.out⟩
set_option maxHeartbeats 1000000 in
theorem DefinedRel_yes (g : ByteArray) (hg : g.size ≤ 9223372036854775807) (ψ : Fm.T) (hr : readB g = some ψ) (hfr : Fm.free ψ / 4 = 0) (n : Nat) (S R : ByteArray) (hv : validB n S R = true) (w : World) :
    Calls Tryd.prog 53 #[strV n S R, .string g] w fun en w' => en = .returned (.tuple #[.string (ivR n S R ψ), .bool true]) ∧ Below w.heap.size w w' := by
  obtain ⟨h1, h8, hS, hR, _, _⟩ := valid_is hv
  have HIS : Hid (∀ w, Calls Tryd.prog 77 #[strV n S R] w fun e w' => e = .returned (.bool true) ∧ Below w.heap.size w w') := fun w => by
    have := isStructure_any n S R w (by omega) (by rw [hR]; have := Nat.mul_le_mul h8 h8; omega)
    rw [hv] at this
    exact this
  have HNH := Lib.hid (fun F w hF => newHolder_any n S R hv F w hF)
  have HB : Hid (SBlk (boxS w n S R) w.heap.size n S R ∧ Below w.heap.size w (boxS w n S R)) := ⟨boxS_SBlk _ _ _ _, boxS_below _ _ _ _⟩
  have HFR := Lib.hid hfr
  have HRD := Lib.hid hr
  clear hv hr hfr
  obtain ⟨W, hW⟩ : ∃ W, boxS w n S R = W := ⟨_, rfl⟩
  rw [hW] at HB
  unfold boxS at hW
  obtain ⟨x3, hx3⟩ : ∃ x, w.heap.size = x := ⟨_, rfl⟩
  have HWX : Hid (x3 < W.heap.size) := by rw [← hW, ← hx3]; show _ < _; simp
  rw [hx3] at HB
  have HX3 := Lib.hid hx3
  have HW := Lib.hid hW
  clear hW hx3
  unfold strV at HIS HNH
  unfold strV
  go_enter Tryd.func53, Tryd.ntmps53
  go_upto_region 1 with fail
  rw [HW.out, HX3.out]
  go_wp2_with fail
  refine (parseFormula_any g _ hg).mono ?_
  rintro en w2 ⟨hb2, hor⟩
  rcases hor with ⟨hr, rfl⟩ | ⟨φ, p, hr, rfl, ht⟩
  · rw [HRD.out] at hr; cases hr
  · rw [HRD.out] at hr
    injection hr with hr
    subst hr
    have al : Below w2.heap.size w2 (w2.alloc (.cells #[.pointer (some ⟨p, 0, none⟩)] 81)) := (Below.refl _ _).alloc (Nat.le_refl _) _
    have HB2 : Hid (SBlk (w2.alloc (.cells #[.pointer (some ⟨p, 0, none⟩)] 81)) x3 n S R ∧ Below x3 w (w2.alloc (.cells #[.pointer (some ⟨p, 0, none⟩)] 81))) := by
      have h1 := hb2.trans (al.mono hb2.size)
      exact ⟨HB.out.1.below h1 HB.out.1.cells.2.2.2.2.2.2, HB.out.2.trans (h1.mono (Nat.le_of_lt HWX.out))⟩
    have HT := Lib.hid (ht.below al)
    have HPP : Hid ((w2.alloc (.cells #[.pointer (some ⟨p, 0, none⟩)] 81)).cell? ⟨w2.heap.size, 0, none⟩ = some (.pointer (some ⟨p, 0, none⟩)) ∧ W.heap.size ≤ w2.heap.size) := ⟨by unfold World.cell?; rw [heap_alloc_new]; rfl, hb2.size⟩
    clear hb2 ht al
    obtain ⟨s0, s1, s2, _, _, _, hl⟩ := HB2.out.1.cells
    unfold ptrV
    go_wp2_with fail
    refine (HIS.out _).mono ?_; rintro _ w3 ⟨rfl, hb3⟩
    have HB3 : Hid (SBlk w3 x3 n S R ∧ Below x3 w w3) := ⟨HB2.out.1.below hb3 HB2.out.1.cells.2.2.2.2.2.2, HB2.out.2.trans (hb3.mono (Nat.le_of_lt HB2.out.1.cells.2.2.2.2.2.2))⟩
    have HT3 := Lib.hid ((HT.out.below hb3).mono (F' := fun b => W.heap.size ≤ b) (fun b hb => hb))
    have HP3 : Hid (w3.cell? ⟨w2.heap.size, 0, none⟩ = some (.pointer (some ⟨p, 0, none⟩)) ∧ w2.heap.size < w3.heap.size) :=
      ⟨(hb3.cell (World.block_lt_of_cell? _ _ HPP.out.1)).trans HPP.out.1, Nat.lt_of_lt_of_le (World.block_lt_of_cell? _ _ HPP.out.1) hb3.size⟩
    clear hb3 s0 s1 s2 hl
    obtain ⟨s0, s1, s2, _, _, _, hl⟩ := HB3.out.1.cells
    obtain ⟨v, u, qs, nd, _⟩ := HT3.out.node
    have c3 := nd.cells.2.2.2.1
    have hfl := Fm.free_lt ψ
    clear nd
    have pc := HP3.out.1
    obtain ⟨fr, hfr⟩ : ∃ fr, Fm.free ψ = fr := ⟨_, rfl⟩
    rw [hfr] at c3 hfl HFR
    have h0I : (fr : Int) / 4 = 0 := by have := HFR.out; omega
    go_wp2_with fail
    refine (HNH.out (fun b => W.heap.size ≤ b ∧ b < w3.heap.size) w3 (fun b hb => hb.2)).mono ?_
    rintro _ w5 ⟨hb, kb, rfl, hkb, hbase, hb5⟩
    have hal6 : Below w5.heap.size w5 (w5.alloc (.cells #[.pointer (some ⟨hb, 0, none⟩)] 97)) := (Below.refl _ _).alloc (Nat.le_refl _) _
    have hb6 : Below w3.heap.size w3 (w5.alloc (.cells #[.pointer (some ⟨hb, 0, none⟩)] 97)) := hb5.trans (hal6.mono hb5.size)
    have HB6 : Hid (SBlk (w5.alloc (.cells #[.pointer (some ⟨hb, 0, none⟩)] 97)) x3 n S R ∧ Below x3 w (w5.alloc (.cells #[.pointer (some ⟨hb, 0, none⟩)] 97))) := ⟨HB3.out.1.below hb6 HB3.out.1.cells.2.2.2.2.2.2, HB3.out.2.trans (hb6.mono (Nat.le_of_lt HB3.out.1.cells.2.2.2.2.2.2))⟩
    have HT6 := Lib.hid ((HT3.out.tight.below hb6).mono (F' := fun b => (W.heap.size ≤ b ∧ b < w3.heap.size) ∨ b = hb) (fun b h => .inl h))
    have HS6 := Lib.hid (hbase.below hal6)
    have HP6 : Hid ((w5.alloc (.cells #[.pointer (some ⟨hb, 0, none⟩)] 97)).cell? ⟨w2.heap.size, 0, none⟩ = some (ptrV p) ∧ (w5.alloc (.cells #[.pointer (some ⟨hb, 0, none⟩)] 97)).cell? ⟨w5.heap.size, 0, none⟩ = some (ptrV hb)) :=
      ⟨(hb6.cell (World.block_lt_of_cell? _ _ HP3.out.1)).trans HP3.out.1, by unfold World.cell?; rw [heap_alloc_new]; rfl⟩
    have HKB : Hid (x3 < kb ∧ w2.heap.size < kb ∧ kb < w5.heap.size) := ⟨by have := HB3.out.1.cells.2.2.2.2.2.2; omega, by have := HP3.out.2; omega, hbase.memo.lt kb rfl⟩
    have HM := Lib.hid (fun k2 hk2 hr => makeStructure_setE (F := fun b => (W.heap.size ≤ b ∧ b < w3.heap.size) ∨ b = hb) (G := fun b => b = kb) (kb := kb) (a := stOf n S R) n h8 S R hS k2 #[.pointer (some ⟨w5.heap.size, 0, none⟩), .pointer (some ⟨w2.heap.size, 0, none⟩)] (fun x y => Fm.holds (stOf n S R) ψ (env2 x y)) (w5.alloc (.cells #[.pointer (some ⟨hb, 0, none⟩)] 97)) hk2 (hbase.below hal6).memo hr)
    clear s0 s1 s2 hl hbase hb5 hkb hal6 hb6 c3 pc
    obtain ⟨s0, s1, s2, _, _, _, hl⟩ := HB6.out.1.cells
    unfold ptrV
    unfold strV at HM
    go_wp2_with fail
    refine (HM.out _ (fun _ _ => by kernel_rfl) (fun x y W' G' hx hy hev hm => defrel1_any ψ _ G' W' hb kb n S R p w5.heap.size w2.heap.size x y (HS6.out.ever hev hm) (HT6.out.ever HS6.out.memo hev) hx hy (hev.cell HP6.out.2 (fun e => ?_)) (hev.cell HP6.out.1 (fun e => ?_)))).mono ?_
    · have e : w5.heap.size = kb := e
      have := HKB.out.2.2; omega
    · have e : w2.heap.size = kb := e
      have := HKB.out.2.1; omega
    · rintro e w7 ⟨rfl, hev⟩
      have HB7 : Hid (Below x3 w w7) := HB6.out.2.trans (hev.off.below (B := x3) (Nat.le_of_lt HB6.out.1.cells.2.2.2.2.2.2) (fun b e => by have e : b = kb := e; have := HKB.out.1; omega))
      clear hev s0 s1 s2 hl
      have hfd : ∀ x y z W', (Instr.field 28 (.agg #[x, y, z]) 2).run Tryd.prog W' = .ok z W' := fun _ _ _ _ => by kernel_rfl
      go_wp2_with fail
      go_ret2
      exact ⟨rfl, by rw [HX3.out]; exact HB7.out⟩
/-- The relation turned. -/
def turnR (n : Nat) (R : ByteArray) : ByteArray := gridOf (fun x y => relAt n R y x) n
theorem turn1_any (n : Nat) (S R : ByteArray) (h8 : n ≤ 8) (hR : R.size = n * n) (b x y : Nat) (w : World) (hx : x < n) (hy : y < n) (hb : SBlk w b n S R) :
    Calls Tryd.prog 127 #[.int .i64 (x : Int), .int .i64 (y : Int), .pointer (some ⟨b, 0, none⟩)] w fun e w' => e = .returned (.bool (relAt n R y x)) ∧ Below w.heap.size w w' := by
  have HI := Lib.hid (fun w => inRel_b n S R y x w hy hx h8 hR)
  generalize relAt n R y x = r at *
  obtain ⟨s0, s1, s2, _, _, _, hl⟩ := hb.cells
  clear hR hb
  unfold strV at HI
  go_enter Tryd.func127, Tryd.ntmps127
  go_wp2_with fail
  refine (HI.out _).mono ?_; rintro e w2 ⟨rfl, hb2⟩
  have HB2 := Lib.hid hb2
  clear hb2
  go_wp2_with fail
  go_ret
  exact ⟨ret_bool (by simp), HB2.out⟩
set_option maxHeartbeats 1000000 in
theorem Turn_yes (n : Nat) (S R : ByteArray) (hv : validB n S R = true) (w : World) :
    Calls Tryd.prog 55 #[strV n S R] w fun en w' => en = .returned (.tuple #[strV n (bitsOf (oneAt S) n) (turnR n R), .bool true]) ∧ Below w.heap.size w w' := by
  obtain ⟨h1, h8, hS, hR, _, _⟩ := valid_is hv
  have HIS : Hid (∀ w, Calls Tryd.prog 77 #[strV n S R] w fun e w' => e = .returned (.bool true) ∧ Below w.heap.size w w') := fun w => by
    have := isStructure_any n S R w (by omega) (by rw [hR]; have := Nat.mul_le_mul h8 h8; omega)
    rw [hv] at this
    exact this
  have HB := Lib.hid (BoxR.first w n S R)
  have HM := Lib.hid (fun W3 k2 hk2 hr => makeStructure_set n h8 S R hS k2 #[.pointer (some ⟨w.heap.size, 0, none⟩)] (fun x y => relAt n R y x) W3 hk2 hr)
  have HRR := Lib.hid hR
  clear hv hS hR
  unfold boxS at HB
  obtain ⟨W, hW⟩ : ∃ W, (w.alloc (.cells #[.int .i64 (n : Int), .string S, .string R] 28)).alloc (.cells #[.int .i64 0, .string ⟨#[]⟩, .string ⟨#[]⟩] 28) = W := ⟨_, rfl⟩
  replace HB : Hid (BoxR w W n S R) := by rw [← hW]; exact HB.out
  have HW := Lib.hid hW
  clear hW
  unfold strV at HIS
  unfold strV
  go_enter Tryd.func55, Tryd.ntmps55
  go_upto_region 1 with fail
  rw [HW.out]
  obtain ⟨s0, s1, s2, _, _, _, hl⟩ := HB.out.a.cells
  go_wp2_with fail
  refine (HIS.out _).mono ?_; rintro _ w3 ⟨rfl, hb3⟩
  have HB3 := Lib.hid (HB.out.below hb3)
  clear hb3 s0 s1 s2 hl
  obtain ⟨s0, s1, s2, _, _, _, hl⟩ := HB3.out.a.cells
  go_wp2_with fail
  unfold strV at HM
  refine (HM.out w3 _ (fun _ _ => by kernel_rfl) (fun x y W' hx hy hb => turn1_any n S R h8 HRR.out w.heap.size x y W' hx hy (HB3.out.a.below hb HB3.out.a.cells.2.2.2.2.2.2))).mono ?_
  rintro e w7 ⟨rfl, hb7⟩
  have HB7 := Lib.hid (HB3.out.below hb7)
  clear hb7 s0 s1 s2 hl
  obtain ⟨d0, d1, d2, g0, g1, g2, hl⟩ := HB7.out.res.cells
  go_wp2_with fail
  refine bodyPost_ret (v := .tuple #[strV n (bitsOf (oneAt S) n) (turnR n R), .bool true]) ?_ rfl ⟨rfl, ?_⟩
  · exact results_str2 rfl rfl HB7.out.res.set3 rfl
  · exact HB7.out.fin _ _ _
/-- Whether a list has a number. -/
theorem gsHas_any (L : List Nat) (v : Value) (x : Nat) (w : World) (hv : NumsAt w v L) :
    Calls Tryd.prog 54 #[v, .int .i64 (x : Int)] w fun e w' => e = .returned (.bool (L.contains x)) ∧ w' = w := by
  obtain ⟨a, cap, rfl, l1, l2, l3⟩ := hv.view
  have HC := Lib.hid l3
  clear l3 hv
  unfold maxLen at l2
  obtain ⟨R, hR⟩ : ∃ R, L.contains x = R := ⟨_, rfl⟩
  have HR : Hid (L.contains x = R) := hR
  rw [hR]
  clear hR
  go_enter Tryd.func54, Tryd.ntmps54
  go_wp2_with fail
  go_loop [5] (fun q => ∃ j : Nat, j ≤ L.length ∧ q = .int .i64 (j : Int) ∧ Hid ((L.take j).contains x = false)) (fun q => L.length - (intOf q).toNat)
  case atStart => exact ⟨0, by omega, rfl, rfl⟩
  case round =>
    obtain ⟨j, hj, rfl, HN⟩ := hrel
    by_cases hlt : j < L.length
    · obtain ⟨g, o, rfl, hg, hcc⟩ := HC.out (by omega)
      have d1 := hcc j hlt
      have hjI : (j : Int) < (L.length : Int) := by omega
      have hgd : L.getD j 0 = L[j] := by rw [List.getD_eq_getElem?_getD, List.getElem?_eq_getElem hlt]; rfl
      have HST : Hid ((L.take (j + 1)).contains x = ((L.take j).contains x || (L[j] == x))) := by
        show _ = _
        rw [List.take_succ_eq_append_getElem hlt, List.contains_append]
        congr 1
        rw [List.contains_cons, List.contains_nil, Bool.or_false, Bool.eq_iff_iff, beq_iff_eq, beq_iff_eq]
        exact eq_comm
      have HPR : Hid ((L.take (j + 1)).contains x = true → L.contains x = true) := fun h => by
        rw [List.contains_iff_mem] at h ⊢
        exact List.mem_of_mem_take h
      rw [HN.out] at HST
      rw [hgd] at d1
      generalize L[j] = y at *
      clear hcc hgd
      by_cases hxy : y = x
      · have HRT : Hid (true = R) := by
          show _ = _
          rw [← HR.out]
          exact (HPR.out (by rw [HST.out]; simp [hxy])).symm
        have hxyI : (y : Int) = (x : Int) := by rw [hxy]
        clear HR HN HST HPR hxy
        go_wp2_with fail
        go_ret
        exact ⟨ret_bool HRT.out, rfl⟩
      · have hxyI : ¬ (y : Int) = (x : Int) := by omega
        have HN2 : Hid ((L.take (j + 1)).contains x = false) := by show _ = _; rw [HST.out]; simp [hxy]
        clear HR HN HST HPR
        go_wp2_with fail
        go_round
        case rel => exact ⟨j + 1, by omega, by go_num, HN2.out⟩
        case measure => simp [intOf]; omega
    · have hjI : ¬ (j : Int) < (L.length : Int) := by omega
      have hjl : j = L.length := by omega
      have HRF : Hid (false = R) := by
        show _ = _
        rw [← HR.out]
        have := HN.out
        rw [hjl, List.take_length] at this
        exact this.symm
      clear HR HN
      go_wp2_with fail
      go_ret
      exact ⟨ret_bool HRF.out, rfl⟩
end Go.Proofs.YtmabpmkkleelaaaDoor
/- Plainly: a formula is true alike where a symmetry turns the elements; what Interpret gives. Conditions: those that each states. -/
namespace Go.Proofs.YtmabpmkkleelaaaDoor
open Go.RowKit
set_option linter.unusedVariables false
set_option maxRecDepth 100000

theorem cnt_len (f : Nat → Bool) : ∀ n, Fm.cnt f n = ((List.range n).filter f).length
  | 0 => rfl
  | n + 1 => by
    rw [Fm.cnt, cnt_len f n, List.range_succ, List.filter_append, List.length_append]
    cases h : f n
    · simp [h]
    · simp [h]
theorem range_map {p : List Nat} {n : Nat} (hl : p.length = n) : (List.range n).map (fun i => p.getD i 0) = p := by
  apply Gs.ext_gd
  · simp [hl]
  · intro i hi
    rw [List.length_map, List.length_range] at hi
    simp [hi]
theorem turns_cnt {p : List Nat} {n : Nat} (hd : p.Nodup) (hl : p.length = n) (hn : ∀ x ∈ p, x < n) {f g : Nat → Bool} (h : ∀ x, x < n → f x = g (p.getD x 0)) : Fm.cnt f n = Fm.cnt g n := by
  rw [cnt_len, cnt_len]
  have e1 : ((List.range n).filter f).length = (p.filter g).length := by
    have : p.filter g = ((List.range n).filter f).map (fun i => p.getD i 0) := by
      conv => lhs; rw [← range_map hl]
      rw [List.filter_map]
      congr 1
      apply List.filter_congr
      intro x hx
      exact (h x (List.mem_range.1 hx)).symm
    rw [this, List.length_map]
  rw [e1]
  refine Nat.le_antisymm ?_ ?_
  · refine Gs.nodup_le (hd.filter _) (fun x hx => ?_)
    rw [List.mem_filter] at hx ⊢
    exact ⟨List.mem_range.2 (hn x hx.1), hx.2⟩
  · refine Gs.nodup_le (List.nodup_range.filter _) (fun x hx => ?_)
    rw [List.mem_filter] at hx ⊢
    exact ⟨Gs.nodup_all hd hl hn (List.mem_range.1 hx.1), hx.2⟩
theorem holds_turn {a : Gs.St} {p : List Nat} (hp : Gs.Turns a a p) (hl : p.length = a.n) : ∀ (φ : Fm.T) (e : Fm.Env), (∀ v, e v < a.n) → Fm.holds a φ e = Fm.holds a φ (fun v => p.getD (e v) 0)
  | .lit b, e, _ => rfl
  | .set v, e, h => (hp.s _ (by rw [hl]; exact h v)).symm
  | .rel true v w, e, h => (hp.r _ _ (by rw [hl]; exact h v) (by rw [hl]; exact h w)).symm
  | .rel false v w, e, h => by
    simp only [Fm.holds]
    by_cases he : e v = e w
    · rw [decide_eq_true he, decide_eq_true (congrArg (fun z => p.getD z 0) he)]
    · rw [decide_eq_false he, decide_eq_false (fun h2 => he (Gs.gd_inj hp.nodup (by rw [hl]; exact h v) (by rw [hl]; exact h w) h2))]
  | .neg f, e, h => by simp only [Fm.holds]; rw [holds_turn hp hl f e h]
  | .bin true f g, e, h => by simp only [Fm.holds]; rw [holds_turn hp hl f e h, holds_turn hp hl g e h]
  | .bin false f g, e, h => by simp only [Fm.holds]; rw [holds_turn hp hl f e h, holds_turn hp hl g e h]
  | .qu q v f, e, h => by
    simp only [Fm.holds]
    rw [turns_cnt hp.nodup hl hp.lt (f := fun x => Fm.holds a f (Fm.upd e v x)) (g := fun x => Fm.holds a f (Fm.upd (fun v => p.getD (e v) 0) v x)) (fun x hx => ?_)]
    have := holds_turn hp hl f (Fm.upd e v x) (fun u => by
      unfold Fm.upd
      split
      · exact hx
      · exact h u)
    rw [this]
    congr 1
    funext u
    unfold Fm.upd
    split <;> rfl
/-- A symmetry is one of the defined structure. -/
theorem iv_turns {n : Nat} {S R : ByteArray} {φ ψ : Fm.T} (h1 : 1 ≤ n) (u1 : Fm.Upto 1 φ) (u2 : Fm.Upto 2 ψ) {p : List Nat} (hp : Gs.Turns (stOf n S R) (stOf n S R) p) (hl : p.length = n) : Gs.Turns (ivSt n S R φ ψ) (ivSt n S R φ ψ) p := by
  have lt : ∀ i, i < n → p.getD i 0 < n := fun i hi => hp.lt _ (Gs.gd_mem (by rw [hl]; exact hi))
  refine ⟨hp.nodup, hp.lt, fun i hi => ?_, fun i j hi hj => ?_⟩
  · rw [hl] at hi
    rw [iv_s (lt i hi), iv_s hi, holds_turn hp hl φ (Fm.env1 i) (fun v => by
      unfold Fm.env1
      split
      · exact hi
      · exact h1)]
    apply Fm.holds_congr
    intro u hu
    have := u1 u hu
    have h0 : u = 0 := by omega
    subst h0
    rfl
  · rw [hl] at hi hj
    rw [iv_r (lt i hi) (lt j hj), iv_r hi hj, holds_turn hp hl ψ (Fm.env2 i j) (fun v => by
      unfold Fm.env2
      split
      · exact hi
      · split
        · exact hj
        · exact h1)]
    apply Fm.holds_congr
    intro u hu
    have := u2 u hu
    rcases (by omega : u = 0 ∨ u = 1) with rfl | rfl <;> rfl
theorem iv_dvd {n : Nat} {S R : ByteArray} {φ ψ : Fm.T} (h1 : 1 ≤ n) (u1 : Fm.Upto 1 φ) (u2 : Fm.Upto 2 ψ) : (Gs.shapes (stOf n S R) (stOf n S R)).length ∣ (Gs.shapes (ivSt n S R φ ψ) (ivSt n S R φ ψ)).length :=
  Gs.shapes_dvd rfl (fun p hp hl => iv_turns h1 u1 u2 hp hl)
theorem shapes_pos (a : Gs.St) : 0 < (Gs.shapes a a).length := List.length_pos_of_mem (Gs.shapes_mem.2 (Gs.id_sym a))
theorem pa_read : readB ⟨#[80, 97]⟩ = some (.set 0) := Fm.read_iff.2 ⟨rfl, by decide⟩
theorem eab_read : readB ⟨#[69, 97, 98]⟩ = some (.rel true 0 1) := Fm.read_iff.2 ⟨rfl, by decide⟩
theorem eba_read : readB ⟨#[69, 98, 97]⟩ = some (.rel true 1 0) := Fm.read_iff.2 ⟨rfl, by decide⟩
theorem iv_atoms {n : Nat} {S R : ByteArray} (h : validB n S R = true) : intRes ⟨#[80, 97]⟩ ⟨#[69, 97, 98]⟩ n S R = .tuple #[strV n S R, .bool true] := by
  obtain ⟨h1, h8, hS, hR, hb, hb2⟩ := valid_is h
  have e3 : viewB ⟨#[80, 97]⟩ ⟨#[69, 97, 98]⟩ = some (.set 0, .rel true 0 1) := by
    rw [viewB_some pa_read eab_read, if_pos (by decide)]
  rw [intRes_some e3]
  have q1 : bitsOf (fun x => Fm.holds (stOf n S R) (.set 0) (env2 x 0)) n = S := bits_back hb
  have q2 : gridOf (fun x y => Fm.holds (stOf n S R) (.rel true 0 1) (env2 x y)) n = R := by
    have : gridOf (fun x y => Fm.holds (stOf n S R) (.rel true 0 1) (env2 x y)) n = bitsOf (oneAt R) (n * n) := by
      unfold gridOf bitsOf
      congr 2
      apply List.map_congr_left
      intro k hk
      have hk := List.mem_range.1 hk
      show bit (relAt n R (k / n) (k % n)) = bit (oneAt R k)
      unfold relAt
      rw [Nat.mul_comm, Nat.div_add_mod]
    rw [this]; exact bits_back hb2
  rw [q1, q2]
theorem iv_turned {n : Nat} {S R : ByteArray} (h : validB n S R = true) : intRes ⟨#[80, 97]⟩ ⟨#[69, 98, 97]⟩ n S R = .tuple #[strV n (bitsOf (oneAt S) n) (turnR n R), .bool true] := by
  have e3 : viewB ⟨#[80, 97]⟩ ⟨#[69, 98, 97]⟩ = some (.set 0, .rel true 1 0) := by
    rw [viewB_some pa_read eba_read, if_pos (by decide)]
  rw [intRes_some e3]
  rfl
/-- The defined set has its elements. -/
theorem def_has {n : Nat} {S R : ByteArray} {φ : Fm.T} {x : Nat} (hx : x < n) : (defTo (stOf n S R) φ n).contains x = oneAt (ivS n S R φ) x := by
  rw [ivS, oneAt_bitsI _ _ _ hx, Bool.eq_iff_iff, List.contains_iff_mem, defTo, List.mem_filter, List.mem_range]
  exact ⟨fun h => h.2, fun h => ⟨hx, h⟩⟩
end Go.Proofs.YtmabpmkkleelaaaDoor
namespace Go.Proofs.YtmabpmkkleelaaaDoor
open Go.RowKit
set_option linter.unusedVariables false
set_option maxRecDepth 100000

theorem nat_valid46 {n : Int} {S R : ByteArray} (h : validB n S R = true) : ∃ m : Nat, n = (m : Int) := by
  have h0 := h
  unfold validB inB at h0
  simp at h0
  exact Int.eq_ofNat_of_zero_le (by omega)
theorem rowLen46 {k : IntKind} {w : World} {a : Option Addr} {len cap : Nat} {zs : List Int} (h : IsRow k w a len cap zs) : len ≤ maxLen := by
  rcases h with ⟨_, h, _⟩ | ⟨_, _, h1, h2, _⟩
  · rw [h]; decide
  · omega
/-- Either nothing is defined, or all is. -/
theorem iv_case (f g : ByteArray) (hf : f.size ≤ 9223372036854775807) (hg : g.size ≤ 9223372036854775807) (n : Int) (S R : ByteArray) (hS : S.size ≤ 9223372036854775807) (hR : R.size ≤ 9223372036854775807) :
    ((∀ w, Calls Tryd.prog 21 #[strV n S R, .string f, .string g] w fun en w' => en = .returned (.tuple #[strV 0 ByteArray.empty ByteArray.empty, .bool false]) ∧ Below w.heap.size w w') ∧
     (∀ w, Calls Tryd.prog 52 #[strV n S R, .string f, .string g] w fun en w' => en = .returned (.tuple #[strV 0 ByteArray.empty ByteArray.empty, .bool false]) ∧ Below w.heap.size w w')) ∨
    ∃ (m : Nat) (φ ψ : Fm.T), n = (m : Int) ∧ validB m S R = true ∧ viewB f g = some (φ, ψ) := by
  cases hv : validB n S R
  · exact .inl ⟨fun w => implInterpret_no f g hf hg n S R hS hR hv w, fun w => specInterpret_no f g hf hg n S R hS hR (.inl hv) w⟩
  · obtain ⟨m, rfl⟩ := nat_valid46 hv
    cases hvw : viewB f g with
    | none => exact .inl ⟨fun w => by rw [← intRes_none (n := m) (S := S) (R := R) hvw]; exact implInterpret_yes f g hf hg m S R hv w, fun w => specInterpret_no f g hf hg m S R hS hR (.inr (view_no hvw)) w⟩
    | some p => exact .inr ⟨m, p.1, p.2, rfl, hv, by first | rfl | exact hvw⟩
set_option maxHeartbeats 4000000 in
theorem fnInterpret_walk (a0 : Option Addr) (len0 cap0 : Nat) (z0 : List Int) (w : World) (w0 : IsRow .u8 w a0 len0 cap0 z0) :
    Calls Tryd.prog 10 #[.slice a0 len0 cap0] w fun e w' => e = .returned (.bool true) ∧ Below w.heap.size w w' := by
  have m0 := rowLen46 w0
  unfold maxLen at m0
  have W0 := Lib.hid w0; clear w0
  by_cases l0 : (len0 : Int) ≤ 1048576
  · go_enter Tryd.func10, Tryd.ntmps10
    go_wp2_with fail
    refine (DrawInterpret_any _ _ _ _ _ W0.out).mono ?_; rintro e w1 ⟨n, S, R, f, g, n0, n1, hS, hR, hf, hg, rfl, hb⟩
    have HB1 := Lib.hid hb; clear hb
    rcases iv_case f g (by omega) (by omega) n S R (by omega) (by omega) with ⟨hi, hs⟩ | ⟨m, φ, ψ, rfl, hv, hvw⟩
    · have HI := Lib.hid hi
      have HS := Lib.hid hs
      clear hi hs hS hR hf hg
      unfold strV at HI HS ⊢
      have hal : Below w1.heap.size w1 (w1.alloc (.cells #[.int .i64 n, .string S, .string R] 28)) := (Below.refl _ _).alloc (Nat.le_refl _) _
      have HB2 := Lib.hid (HB1.out.trans (hal.mono HB1.out.size))
      have HXa2 : Hid (SBlk (w1.alloc (.cells #[.int .i64 n, .string S, .string R] 28)) w1.heap.size n S R) := SBlk.new w1 n S R
      clear hal
      obtain ⟨ca0, ca1, ca2, fa0, fa1, fa2, ba⟩ := HXa2.out.cells
      go_wp2_with fail
      refine (HI.out _).mono ?_; rintro e w3 ⟨rfl, hb⟩
      have HB3 := Lib.hid (HB2.out.trans (hb.mono HB2.out.size))
      have HXa3 := Lib.hid (HXa2.out.below hb HXa2.out.cells.2.2.2.2.2.2)
      clear hb
      clear ca0 ca1 ca2 fa0 fa1 fa2 ba
      have hal : Below w3.heap.size w3 (w3.alloc (.cells #[.int .i64 0, .string ByteArray.empty, .string ByteArray.empty] 28)) := (Below.refl _ _).alloc (Nat.le_refl _) _
      have HB4 := Lib.hid (HB3.out.trans (hal.mono HB3.out.size))
      have HXa4 := Lib.hid (HXa3.out.below hal HXa3.out.cells.2.2.2.2.2.2)
      have HXb4 : Hid (SBlk (w3.alloc (.cells #[.int .i64 0, .string ByteArray.empty, .string ByteArray.empty] 28)) w3.heap.size 0 ByteArray.empty ByteArray.empty) := SBlk.new w3 0 ByteArray.empty ByteArray.empty
      clear hal
      obtain ⟨ca0, ca1, ca2, fa0, fa1, fa2, ba⟩ := HXa4.out.cells
      go_wp2_with fail
      refine (HS.out _).mono ?_; rintro e w5 ⟨rfl, hb⟩
      have HB5 := Lib.hid (HB4.out.trans (hb.mono HB4.out.size))
      have HXa5 := Lib.hid (HXa4.out.below hb HXa4.out.cells.2.2.2.2.2.2)
      have HXb5 := Lib.hid (HXb4.out.below hb HXb4.out.cells.2.2.2.2.2.2)
      clear hb
      clear ca0 ca1 ca2 fa0 fa1 fa2 ba
      have hal : Below w5.heap.size w5 (w5.alloc (.cells #[.int .i64 0, .string ByteArray.empty, .string ByteArray.empty] 28)) := (Below.refl _ _).alloc (Nat.le_refl _) _
      have HB6 := Lib.hid (HB5.out.trans (hal.mono HB5.out.size))
      have HXa6 := Lib.hid (HXa5.out.below hal HXa5.out.cells.2.2.2.2.2.2)
      have HXb6 := Lib.hid (HXb5.out.below hal HXb5.out.cells.2.2.2.2.2.2)
      have HXc6 : Hid (SBlk (w5.alloc (.cells #[.int .i64 0, .string ByteArray.empty, .string ByteArray.empty] 28)) w5.heap.size 0 ByteArray.empty ByteArray.empty) := SBlk.new w5 0 ByteArray.empty ByteArray.empty
      clear hal
      obtain ⟨cb0, cb1, cb2, fb0, fb1, fb2, bb⟩ := HXb6.out.cells
      obtain ⟨cc0, cc1, cc2, fc0, fc1, fc2, bc⟩ := HXc6.out.cells
      go_wp2_with fail
      go_ret
      exact ⟨ret_bool (by simp), HB6.out⟩
    · obtain ⟨r1, r2, o1, o2⟩ := pview_ok hvw
      obtain ⟨h1, h8, hSm, hRm, _, _⟩ := valid_is hv
      have u1 := ok_upto1 r1 o1
      have u2 := ok_upto2 r2 o2
      have HI := Lib.hid (fun w => implInterpret_yes f g (by omega) (by omega) m S R hv w)
      rw [ivRes_some hvw] at HI
      have HS : Hid (∀ w, Calls Tryd.prog 52 #[strV m S R, .string f, .string g] w fun en w' => en = .returned (.tuple #[strV m (ivS m S R φ) (ivR m S R ψ), .bool true]) ∧ Below w.heap.size w w') := fun w => specInterpret_yes f g m S R hv φ ψ r1 r2 o1 o2 w
      have HD := Lib.hid (fun w => implDefined_any f (by omega) m S R (by omega) (by omega) w)
      have hds : defSet f m S R = some (defTo (stOf m S R) φ m) := by
        rw [defSet_some r1, if_pos ⟨hv, by rw [okV_some r1, decide_eq_true_iff] at o1; exact o1⟩]; rfl
      rw [hds] at HD
      have HDR := Lib.hid (fun w => DefinedRel_yes g (by omega) ψ r2 (by rw [okV_some r2, decide_eq_true_iff] at o2; exact o2) m S R hv w)
      have HIA := Lib.hid (fun w => implInterpret_yes ⟨#[80, 97]⟩ ⟨#[69, 97, 98]⟩ (by decide) (by decide) m S R hv w)
      rw [iv_atoms hv] at HIA
      have HIB := Lib.hid (fun w => implInterpret_yes ⟨#[80, 97]⟩ ⟨#[69, 98, 97]⟩ (by decide) (by decide) m S R hv w)
      rw [iv_turned hv] at HIB
      have HT := Lib.hid (fun w => Turn_yes m S R hv w)
      have hv2 : validB m (ivS m S R φ) (ivR m S R ψ) = true := valid_bits h1 h8 _ _
      have HIN := Lib.hid (fun x (hx : x < m) w => InSet_in m (ivS m S R φ) (ivR m S R ψ) x hv2 hx w)
      obtain ⟨_, _, hS2, hR2, _, _⟩ := valid_is hv2
      have hmm : m * m ≤ 64 := Nat.mul_le_mul h8 h8
      have HCA := Lib.hid (fun w => CountSymmetries_any m S R (by omega) (by omega) w)
      have HCB := Lib.hid (fun w => CountSymmetries_any m (ivS m S R φ) (ivR m S R ψ) (by omega) (by omega) w)
      have hca : symsV m S R = (((Gs.shapes (stOf m S R) (stOf m S R)).length : Nat) : Int) := by unfold symsV; rw [if_pos hv]; rfl
      have hcb : symsV m (ivS m S R φ) (ivR m S R ψ) = (((Gs.shapes (ivSt m S R φ ψ) (ivSt m S R φ ψ)).length : Nat) : Int) := by unfold symsV; rw [if_pos hv2]; rfl
      have hdv := iv_dvd (n := m) (S := S) (R := R) (φ := φ) (ψ := ψ) h1 u1 u2
      have hps := shapes_pos (stOf m S R)
      rw [hca] at HCA
      rw [hcb] at HCB
      have HLH := Lib.hid (fun x (hx : x < m) => def_has (S := S) (R := R) (φ := φ) hx)
      have hLm : (defTo (stOf m S R) φ m).length ≤ 8 := Nat.le_trans (defTo_length _ _ _) h8
      generalize (Gs.shapes (stOf m S R) (stOf m S R)).length = ca at *
      generalize (Gs.shapes (ivSt m S R φ ψ) (ivSt m S R φ ψ)).length = cb at *
      generalize ivS m S R φ = TS at *
      generalize ivR m S R ψ = TR at *
      generalize turnR m R = UR at *
      generalize bitsOf (oneAt S) m = US at *
      generalize defTo (stOf m S R) φ m = L at *
      have hca0 : ¬ (ca : Int) = 0 := by omega
      have hrem : ((cb : Int).tmod (ca : Int)) = 0 := by
        obtain ⟨q, hq⟩ := hdv
        rw [hq, Int.natCast_mul]
        exact Int.mul_tmod_right _ _
      have hrem2 : ((cb : Int) % (ca : Int)) = 0 := by
        obtain ⟨q, hq⟩ := hdv
        rw [hq, Int.natCast_mul]
        exact Int.mul_emod_right _ _
      clear hca hcb hdv hps hds hvw r1 r2 o1 o2 u1 u2 hv hv2 hSm hRm hS2 hR2 hmm n0 n1 hS hR hf hg
      unfold strV at HI HS HD HDR HIA HIB HT HIN HCA HCB ⊢
      have hal : Below w1.heap.size w1 (w1.alloc (.cells #[.int .i64 (m : Int), .string S, .string R] 28)) := (Below.refl _ _).alloc (Nat.le_refl _) _
      have HB2 := Lib.hid (HB1.out.trans (hal.mono HB1.out.size))
      have HXa2 : Hid (SBlk (w1.alloc (.cells #[.int .i64 (m : Int), .string S, .string R] 28)) w1.heap.size (m : Int) S R) := SBlk.new w1 (m : Int) S R
      clear hal
      obtain ⟨ca0, ca1, ca2, fa0, fa1, fa2, ba⟩ := HXa2.out.cells
      go_wp2_with fail
      refine (HI.out _).mono ?_; rintro e w3 ⟨rfl, hb⟩
      have HB3 := Lib.hid (HB2.out.trans (hb.mono HB2.out.size))
      have HXa3 := Lib.hid (HXa2.out.below hb HXa2.out.cells.2.2.2.2.2.2)
      clear hb
      clear ca0 ca1 ca2 fa0 fa1 fa2 ba
      have hal : Below w3.heap.size w3 (w3.alloc (.cells #[.int .i64 (m : Int), .string TS, .string TR] 28)) := (Below.refl _ _).alloc (Nat.le_refl _) _
      have HB4 := Lib.hid (HB3.out.trans (hal.mono HB3.out.size))
      have HXa4 := Lib.hid (HXa3.out.below hal HXa3.out.cells.2.2.2.2.2.2)
      have HXb4 : Hid (SBlk (w3.alloc (.cells #[.int .i64 (m : Int), .string TS, .string TR] 28)) w3.heap.size (m : Int) TS TR) := SBlk.new w3 (m : Int) TS TR
      clear hal
      obtain ⟨ca0, ca1, ca2, fa0, fa1, fa2, ba⟩ := HXa4.out.cells
      go_wp2_with fail
      refine (HS.out _).mono ?_; rintro e w5 ⟨rfl, hb⟩
      have HB5 := Lib.hid (HB4.out.trans (hb.mono HB4.out.size))
      have HXa5 := Lib.hid (HXa4.out.below hb HXa4.out.cells.2.2.2.2.2.2)
      have HXb5 := Lib.hid (HXb4.out.below hb HXb4.out.cells.2.2.2.2.2.2)
      clear hb
      clear ca0 ca1 ca2 fa0 fa1 fa2 ba
      have hal : Below w5.heap.size w5 (w5.alloc (.cells #[.int .i64 (m : Int), .string TS, .string TR] 28)) := (Below.refl _ _).alloc (Nat.le_refl _) _
      have HB6 := Lib.hid (HB5.out.trans (hal.mono HB5.out.size))
      have HXa6 := Lib.hid (HXa5.out.below hal HXa5.out.cells.2.2.2.2.2.2)
      have HXb6 := Lib.hid (HXb5.out.below hal HXb5.out.cells.2.2.2.2.2.2)
      have HXc6 : Hid (SBlk (w5.alloc (.cells #[.int .i64 (m : Int), .string TS, .string TR] 28)) w5.heap.size (m : Int) TS TR) := SBlk.new w5 (m : Int) TS TR
      clear hal
      obtain ⟨ca0, ca1, ca2, fa0, fa1, fa2, ba⟩ := HXa6.out.cells
      obtain ⟨cb0, cb1, cb2, fb0, fb1, fb2, bb⟩ := HXb6.out.cells
      obtain ⟨cc0, cc1, cc2, fc0, fc1, fc2, bc⟩ := HXc6.out.cells
      go_wp2_with fail
      refine (HD.out _).mono ?_
      rintro e w7 ⟨hb, hor⟩
      rcases hor with ⟨hno, _⟩ | ⟨v, L', hl, rfl, hnv⟩
      · cases hno
      injection hl with hl
      subst hl
      have HB7 := Lib.hid (HB6.out.trans (hb.mono HB6.out.size))
      have HXa7 := Lib.hid (HXa6.out.below hb HXa6.out.cells.2.2.2.2.2.2)
      have HXb7 := Lib.hid (HXb6.out.below hb HXb6.out.cells.2.2.2.2.2.2)
      obtain ⟨xv, xcap, rfl, _, _, _⟩ := hnv.view
      have HNd7 := Lib.hid hnv
      clear hb hnv
      clear ca0 ca1 ca2 fa0 fa1 fa2 ba cb0 cb1 cb2 fb0 fb1 fb2 bb cc0 cc1 cc2 fc0 fc1 fc2 bc
      obtain ⟨ca0, ca1, ca2, fa0, fa1, fa2, ba⟩ := HXa7.out.cells
      go_wp2_with fail
      refine (HDR.out _).mono ?_; rintro e w8 ⟨rfl, hb⟩
      have HB8 := Lib.hid (HB7.out.trans (hb.mono HB7.out.size))
      have HXa8 := Lib.hid (HXa7.out.below hb HXa7.out.cells.2.2.2.2.2.2)
      have HXb8 := Lib.hid (HXb7.out.below hb HXb7.out.cells.2.2.2.2.2.2)
      have HNd8 := Lib.hid (HNd7.out.below hb)
      clear hb
      clear ca0 ca1 ca2 fa0 fa1 fa2 ba
      obtain ⟨ca0, ca1, ca2, fa0, fa1, fa2, ba⟩ := HXa8.out.cells
      go_wp2_with fail
      go_loopw [14] (fun q wr => ∃ x : Nat, x ≤ m ∧ q = .int .i64 (x : Int) ∧ Hid (SBlk wr w1.heap.size (m : Int) S R ∧ SBlk wr w3.heap.size (m : Int) TS TR ∧ NumsAt wr (.slice xv L.length xcap) L ∧ Below w.heap.size w wr)) (fun q _ => m - (intOf q).toNat)
      case atStart => exact ⟨0, by omega, rfl, HXa8.out, HXb8.out, HNd8.out, HB8.out⟩
      case round =>
        obtain ⟨x, hx, rfl, HL⟩ := hrel
        by_cases hlt : x < m
        · have hltI : (x : Int) < (m : Int) := by omega
          obtain ⟨ca0, ca1, ca2, _, _, _, bba⟩ := HL.out.1.cells
          obtain ⟨cb0, cb1, cb2, _, _, _, bbb⟩ := HL.out.2.1.cells
          have J1 : Hid (∀ s : Since wr, Calls Tryd.prog 54 #[.slice xv L.length xcap, .int .i64 (x : Int)] s.w fun e w' => e = .returned (.bool (L.contains x)) ∧ Below s.w.heap.size s.w w') := fun s => (gsHas_any L _ x s.w (HL.out.2.2.1.below s.below)).mono fun _ _ h => ⟨h.1, by rw [h.2]; exact Below.refl _ _⟩
          have J2 := Lib.hid (fun s : Since wr => HIN.out x hlt s.w)
          rw [HLH.out x hlt] at J1
          generalize oneAt TS x = P at *
          go_wp2_with fail
          have f0 := fun s => Since.cell ca0 s
          have f3 := fun s => Since.cell cb0 s
          have f4 := fun s => Since.cell cb1 s
          have f5 := fun s => Since.cell cb2 s
          refine wp_region_since (by kernel_rfl) (by kernel_rfl) ?_
          repeat (go_big_quiet_step (first | (with_reducible exact Since.call (J1.out _)) | (with_reducible exact Since.call (J2.out _))))
          refine wpQuiet_nil ?_
          intro w10 hb
          have HL3 : Hid (SBlk w10 w1.heap.size (m : Int) S R ∧ SBlk w10 w3.heap.size (m : Int) TS TR ∧ NumsAt w10 (.slice xv L.length xcap) L ∧ Below w.heap.size w w10) := ⟨HL.out.1.below hb HL.out.1.cells.2.2.2.2.2.2, HL.out.2.1.below hb HL.out.2.1.cells.2.2.2.2.2.2, HL.out.2.2.1.below hb, HL.out.2.2.2.trans (hb.mono HL.out.2.2.2.size)⟩
          clear hb f0 f3 f4 f5 ca0 ca1 ca2 bba cb0 cb1 cb2 bbb
          go_wp2_with fail
          go_roundw
          case rel => exact ⟨x + 1, by omega, by go_num, HL3.out⟩
          case measure => simp [intOf]; omega
        · have hltI : ¬ (x : Int) < (m : Int) := by omega
          have HXa20 := Lib.hid HL.out.1
          have HXb20 := Lib.hid HL.out.2.1
          have HB20 := Lib.hid HL.out.2.2.2
          clear HL
          obtain ⟨ca0, ca1, ca2, fa0, fa1, fa2, ba⟩ := HXa20.out.cells
          go_wp2_with fail
          refine (HIA.out _).mono ?_; rintro e w21 ⟨rfl, hb⟩
          have HB21 := Lib.hid (HB20.out.trans (hb.mono HB20.out.size))
          have HXa21 := Lib.hid (HXa20.out.below hb HXa20.out.cells.2.2.2.2.2.2)
          have HXb21 := Lib.hid (HXb20.out.below hb HXb20.out.cells.2.2.2.2.2.2)
          clear hb
          clear ca0 ca1 ca2 fa0 fa1 fa2 ba
          have hal : Below w21.heap.size w21 (w21.alloc (.cells #[.int .i64 (m : Int), .string S, .string R] 28)) := (Below.refl _ _).alloc (Nat.le_refl _) _
          have HB22 := Lib.hid (HB21.out.trans (hal.mono HB21.out.size))
          have HXa22 := Lib.hid (HXa21.out.below hal HXa21.out.cells.2.2.2.2.2.2)
          have HXb22 := Lib.hid (HXb21.out.below hal HXb21.out.cells.2.2.2.2.2.2)
          have HXs22 : Hid (SBlk (w21.alloc (.cells #[.int .i64 (m : Int), .string S, .string R] 28)) w21.heap.size (m : Int) S R) := SBlk.new w21 (m : Int) S R
          clear hal
          obtain ⟨ca0, ca1, ca2, fa0, fa1, fa2, ba⟩ := HXa22.out.cells
          go_wp2_with fail
          refine (HIB.out _).mono ?_; rintro e w23 ⟨rfl, hb⟩
          have HB23 := Lib.hid (HB22.out.trans (hb.mono HB22.out.size))
          have HXa23 := Lib.hid (HXa22.out.below hb HXa22.out.cells.2.2.2.2.2.2)
          have HXb23 := Lib.hid (HXb22.out.below hb HXb22.out.cells.2.2.2.2.2.2)
          have HXs23 := Lib.hid (HXs22.out.below hb HXs22.out.cells.2.2.2.2.2.2)
          clear hb
          clear ca0 ca1 ca2 fa0 fa1 fa2 ba
          have hal : Below w23.heap.size w23 (w23.alloc (.cells #[.int .i64 (m : Int), .string US, .string UR] 28)) := (Below.refl _ _).alloc (Nat.le_refl _) _
          have HB24 := Lib.hid (HB23.out.trans (hal.mono HB23.out.size))
          have HXa24 := Lib.hid (HXa23.out.below hal HXa23.out.cells.2.2.2.2.2.2)
          have HXb24 := Lib.hid (HXb23.out.below hal HXb23.out.cells.2.2.2.2.2.2)
          have HXs24 := Lib.hid (HXs23.out.below hal HXs23.out.cells.2.2.2.2.2.2)
          have HXt24 : Hid (SBlk (w23.alloc (.cells #[.int .i64 (m : Int), .string US, .string UR] 28)) w23.heap.size (m : Int) US UR) := SBlk.new w23 (m : Int) US UR
          clear hal
          obtain ⟨ca0, ca1, ca2, fa0, fa1, fa2, ba⟩ := HXa24.out.cells
          go_wp2_with fail
          refine (HT.out _).mono ?_; rintro e w25 ⟨rfl, hb⟩
          have HB25 := Lib.hid (HB24.out.trans (hb.mono HB24.out.size))
          have HXa25 := Lib.hid (HXa24.out.below hb HXa24.out.cells.2.2.2.2.2.2)
          have HXb25 := Lib.hid (HXb24.out.below hb HXb24.out.cells.2.2.2.2.2.2)
          have HXs25 := Lib.hid (HXs24.out.below hb HXs24.out.cells.2.2.2.2.2.2)
          have HXt25 := Lib.hid (HXt24.out.below hb HXt24.out.cells.2.2.2.2.2.2)
          clear hb
          clear ca0 ca1 ca2 fa0 fa1 fa2 ba
          have hal : Below w25.heap.size w25 (w25.alloc (.cells #[.int .i64 (m : Int), .string US, .string UR] 28)) := (Below.refl _ _).alloc (Nat.le_refl _) _
          have HB26 := Lib.hid (HB25.out.trans (hal.mono HB25.out.size))
          have HXa26 := Lib.hid (HXa25.out.below hal HXa25.out.cells.2.2.2.2.2.2)
          have HXb26 := Lib.hid (HXb25.out.below hal HXb25.out.cells.2.2.2.2.2.2)
          have HXs26 := Lib.hid (HXs25.out.below hal HXs25.out.cells.2.2.2.2.2.2)
          have HXt26 := Lib.hid (HXt25.out.below hal HXt25.out.cells.2.2.2.2.2.2)
          have HXu26 : Hid (SBlk (w25.alloc (.cells #[.int .i64 (m : Int), .string US, .string UR] 28)) w25.heap.size (m : Int) US UR) := SBlk.new w25 (m : Int) US UR
          clear hal
          obtain ⟨ca0, ca1, ca2, fa0, fa1, fa2, ba⟩ := HXa26.out.cells
          obtain ⟨cb0, cb1, cb2, fb0, fb1, fb2, bb⟩ := HXb26.out.cells
          obtain ⟨cs0, cs1, cs2, fs0, fs1, fs2, bs⟩ := HXs26.out.cells
          obtain ⟨ct0, ct1, ct2, ft0, ft1, ft2, bt⟩ := HXt26.out.cells
          obtain ⟨cu0, cu1, cu2, fu0, fu1, fu2, bu⟩ := HXu26.out.cells
          go_wp2_with fail
          have qa0 := fun s => Since.cell ca0 s
          have qa1 := fun s => Since.cell ca1 s
          have qa2 := fun s => Since.cell ca2 s
          have qb0 := fun s => Since.cell cb0 s
          have qb1 := fun s => Since.cell cb1 s
          have qb2 := fun s => Since.cell cb2 s
          have qs0 := fun s => Since.cell cs0 s
          have qs1 := fun s => Since.cell cs1 s
          have qs2 := fun s => Since.cell cs2 s
          have qt0 := fun s => Since.cell ct0 s
          have qt1 := fun s => Since.cell ct1 s
          have qt2 := fun s => Since.cell ct2 s
          have qu0 := fun s => Since.cell cu0 s
          have qu1 := fun s => Since.cell cu1 s
          have qu2 := fun s => Since.cell cu2 s
          refine wp_region_since (by kernel_rfl) (by kernel_rfl) ?_
          have J3 := HCA
          have J4 := HCB
          repeat (go_big_quiet_step (first | (with_reducible exact Since.call (J4.out _)) | (with_reducible exact Since.call (J3.out _))))
          refine wpQuiet_nil ?_
          intro w40 hb
          have HB40 := Lib.hid (HB26.out.trans (hb.mono HB26.out.size))
          clear hb qa0 qa1 qa2 qb0 qb1 qb2 qs0 qs1 qs2 qt0 qt1 qt2 qu0 qu1 qu2
          go_wp2_with fail
          go_ret
          exact ⟨ret_bool (by simp), HB40.out⟩
  · go_enter Tryd.func10, Tryd.ntmps10
    go_wp2_with fail
    go_ret
    exact ⟨rfl, Below.refl _ _⟩
end Go.Proofs.YtmabpmkkleelaaaDoor
