/- Contracts of the program's functions and what they compute: part 25. Conditions: those that each theorem states. -/
import Derived.Test.YtdcnpjekmnlgjaaGreatDoorP56n5
import Derived.Test.YtdcnpjekmnlgjaaGreatDoorP56n17
namespace Go.Proofs.YtdcnpjekmnlgjaaGreatDoor
open Go.RowKit
set_option linter.unusedVariables false
/-- What the loops of makeStructure keep, where the tests turn the holder's map. -/
structure MkE (F G : Nat → Prop) (kb : Nat) (a : Gs.St) (w wr : World) (n : Nat) (S R : ByteArray) : Prop where
  res : SBlk wr w.heap.size 0 ByteArray.empty ByteArray.empty
  out : SBlk wr (w.heap.size + 1) n S R
  flt : ∀ b, F b → b < w.heap.size
  old : EverP F G kb a w wr
  memo : ∃ G', Memo F G' wr kb a ∧ (∀ b, G' b → G b ∨ w.heap.size ≤ b) ∧ ¬ G' w.heap.size ∧ ¬ G' (w.heap.size + 1)
section
variable {F G : Nat → Prop} {kb : Nat} {a : Gs.St} {w wr w' : World} {n : Nat} {S R : ByteArray}
theorem MkE.call {G' : Nat → Prop} (h : MkE F G kb a w wr n S R) (m : Memo F G' wr kb a) (hG : ∀ b, G' b → G b ∨ w.heap.size ≤ b) (g0 : ¬ G' w.heap.size) (g1 : ¬ G' (w.heap.size + 1)) (hev : EverP F G' kb a wr w') : MkE F G kb a w w' n S R := by
  have h1 := h.res.cells.2.2.2.2.2.2
  have h2 := h.out.cells.2.2.2.2.2.2
  obtain ⟨G2, m2, hG2⟩ := hev.memo
  refine ⟨(hev.heap h1 g0).trans h.res, (hev.heap h2 g1).trans h.out, h.flt, h.old.then hG hev, ⟨G2, m2, ?_, ?_, ?_⟩⟩
  · intro b hb
    rcases hG2 b hb with h3 | h3
    · exact hG b h3
    · exact .inr (Nat.le_trans h.old.off.size h3)
  · intro hb
    rcases hG2 _ hb with h3 | h3
    · exact g0 h3
    · omega
  · intro hb
    rcases hG2 _ hb with h3 | h3
    · exact g1 h3
    · omega
theorem MkE.below (h : MkE F G kb a w wr n S R) (hb : Below wr.heap.size wr w') : MkE F G kb a w w' n S R := by
  obtain ⟨G', m, hG, g0, g1⟩ := h.memo
  exact h.call m hG g0 g1 (EverP.of_below m hb)
theorem MkE.drew (h : MkE F G kb a w wr n S R) : MkE F G kb a w wr.drew n S R := h.below ⟨rfl, rfl, rfl, Nat.le_refl _, fun _ _ => rfl⟩
/-- A store into a block of the call's own that is none of the map's. -/
theorem ever_set {G' : Nat → Prop} {b o : Nat} {v : Value} (h0 : ∀ k, F k → k < w.heap.size) (h : EverP F G kb a w wr) (m : Memo F G' wr kb a) (hG : ∀ b, G' b → G b ∨ w.heap.size ≤ b) (hb : w.heap.size ≤ b) (g : ¬ G' b) :
    EverP F G kb a w (wr.setCell ⟨b, o, none⟩ v) ∧ Memo F G' (wr.setCell ⟨b, o, none⟩ v) kb a := by
  have hoff : Off (fun k => k = b) wr (wr.setCell ⟨b, o, none⟩ v) := ⟨rfl, rfl, rfl, by simp [World.setCell], fun k _ hk => Below.heap_setCell _ _ _ _ hk⟩
  have hm : Memo F G' (wr.setCell ⟨b, o, none⟩ v) kb a := m.off hoff (fun k hk e => by have := h0 k hk; omega) (fun k hk e => g (e ▸ hk))
  exact ⟨⟨h.off.trans hoff (fun k hk => .inr (by omega)), G', hm, hG⟩, hm⟩
theorem MkE.set1 (h : MkE F G kb a w wr n S R) (S' : ByteArray) : MkE F G kb a w (wr.setCell ⟨w.heap.size + 1, 1, none⟩ (.string S')) n S' R := by
  obtain ⟨G', m, hG, g0, g1⟩ := h.memo
  obtain ⟨e1, m1⟩ := ever_set (o := 1) (v := .string S') h.flt h.old m hG (by omega) g1
  exact ⟨h.res.far (by simp) _, h.out.set1, h.flt, e1, ⟨G', m1, hG, g0, g1⟩⟩
theorem MkE.set2 (h : MkE F G kb a w wr n S R) (R' : ByteArray) : MkE F G kb a w (wr.setCell ⟨w.heap.size + 1, 2, none⟩ (.string R')) n S R' := by
  obtain ⟨G', m, hG, g0, g1⟩ := h.memo
  obtain ⟨e1, m1⟩ := ever_set (o := 2) (v := .string R') h.flt h.old m hG (by omega) g1
  exact ⟨h.res.far (by simp) _, h.out.set2, h.flt, e1, ⟨G', m1, hG, g0, g1⟩⟩
theorem MkE.fin (h : MkE F G kb a w wr n S R) (u v x : Value) : EverP F G kb a w (((wr.setCell ⟨w.heap.size, 0, none⟩ u).setCell ⟨w.heap.size, 1, none⟩ v).setCell ⟨w.heap.size, 2, none⟩ x) := by
  obtain ⟨G', m, hG, g0, g1⟩ := h.memo
  obtain ⟨e1, m1⟩ := ever_set (o := 0) (v := u) h.flt h.old m hG (Nat.le_refl _) g0
  obtain ⟨e2, m2⟩ := ever_set (o := 1) (v := v) h.flt e1 m1 hG (Nat.le_refl _) g0
  exact (ever_set (o := 2) (v := x) h.flt e2 m2 hG (Nat.le_refl _) g0).1
end
set_option maxHeartbeats 1000000 in
theorem makeStructure_ever {F G : Nat → Prop} {kb : Nat} {a : Gs.St} (n : Nat) (hn : n ≤ 8) (k1 k2 : FuncId) (c1 c2 : Array Value) (s : Nat → Bool) (r : Nat → Nat → Bool) (w : World)
    (hk1 : ∀ (args : Array Value) (W : World), (callFunc k1 args).run Tryz.prog W = .ok (.enter k1 args) W) (hk2 : ∀ (args : Array Value) (W : World), (callFunc k2 args).run Tryz.prog W = .ok (.enter k2 args) W)
    (hm0 : Memo F G w kb a)
    (hs : ∀ x W G', x < n → EverP F G kb a w W → Memo F G' W kb a → Calls Tryz.prog k1 (#[.int .i64 (x : Int)] ++ c1) W fun e w' => e = .returned (.bool (s x)) ∧ EverP F G' kb a W w')
    (hr : ∀ x y W G', x < n → y < n → EverP F G kb a w W → Memo F G' W kb a → Calls Tryz.prog k2 (#[.int .i64 (x : Int), .int .i64 (y : Int)] ++ c2) W fun e w' => e = .returned (.bool (r x y)) ∧ EverP F G' kb a W w') :
    Calls Tryz.prog 22 #[.int .i64 (n : Int), .func (.func k1) #[] c1, .func (.func k2) #[] c2] w fun e w' => e = .returned (strV n (bitsOf s n) (gridOf r n)) ∧ EverP F G kb a w w' := by
  have HS := Lib.hid hs; have HR := Lib.hid hr; clear hs hr
  go_enter Tryz.func22, Tryz.ntmps22
  go_wp2_with fail
  have hI0 : MkE F G kb a w ((w.alloc (.cells #[.int .i64 0, .string ByteArray.empty, .string ByteArray.empty] 24)).alloc (.cells #[.int .i64 n, .string ByteArray.empty, .string ByteArray.empty] 24)) n (bitsOf s 0) (bitsOf (fun k => r (k / n) (k % n)) (0 * n)) := by
    have hbb : Below w.heap.size w ((w.alloc (.cells #[.int .i64 0, .string ByteArray.empty, .string ByteArray.empty] 24)).alloc (.cells #[.int .i64 n, .string ByteArray.empty, .string ByteArray.empty] 24)) := ((Below.refl _ _).alloc (Nat.le_refl _) _).alloc (by simp) _
    refine ⟨?_, ?_, hm0.flt, EverP.of_below hm0 hbb, ⟨G, hm0.below hbb, fun b hb => .inl hb, fun hg => by have := hm0.lt _ hg; omega, fun hg => by have := hm0.lt _ hg; omega⟩⟩
    · exact (Below.heap_alloc _ _ _ (by simp)).trans (SBlk.new w 0 ByteArray.empty ByteArray.empty)
    · have h := SBlk.new (w.alloc (.cells #[.int .i64 0, .string ByteArray.empty, .string ByteArray.empty] 24)) n ByteArray.empty ByteArray.empty
      simpa [bitsOf_zero] using h
  have HI0 := Lib.hid hI0; clear hI0
  go_loopw [13, 8] (fun i _ wr => ∃ x : Nat, x ≤ n ∧ i = .int .i64 x ∧ Hid (MkE F G kb a w wr n (bitsOf s x) (bitsOf (fun k => r (k / n) (k % n)) (x * n)))) (fun i _ _ => n - (intOf i).toNat)
  case atStart => exact ⟨0, by omega, rfl, HI0.out⟩
  case round =>
    obtain ⟨x, hx, rfl, HI⟩ := hrel
    by_cases hlt : x < n
    · obtain ⟨c0, c1', c2', f0, f1, f2, hb⟩ := HI.out.out.cells
      have z0 : (bitsOf s x).size ≤ 8 := by rw [bitsOf_size]; omega
      have z1 : (bitS (s x)).size ≤ 1 := Nat.le_refl _
      go_upto_region 5 with fail
      go_cut [] (fun wx => MkE F G kb a w wx n (bitsOf s x ++ bitS (s x)) (bitsOf (fun k => r (k / n) (k % n)) (x * n)))
      case first =>
        have HD := Lib.hid HI.out.drew
        obtain ⟨G', hm, hG', g0, g1⟩ := HD.out.memo
        have HG' := Lib.hid hG'
        clear hG'
        go_region_with (first | (go_at_call 45; refine (bitOf_any _ _).mono ?_; rintro e w' ⟨rfl, rfl⟩) | ((with_reducible refine (HS.out x _ G' hlt ?_ ?_).mono ?_); (exact HD.out.old); (exact hm); rintro e w1 ⟨rfl, hb1⟩; have HI1 := Lib.hid (HD.out.call hm HG'.out g0 g1 hb1); obtain ⟨i0, i1, i2, j0, j1, j2, hbb⟩ := HI1.out.out.cells; clear hb1))
        all_goals (go_wp2_with fail; go_meet; exact HI1.out.set1 _)
      case rest =>
        have HI := Lib.hid hcut; clear hcut
        rw [← bitsOf_succ] at HI
        go_wp2_with fail
        go_loopw [25, 9] (fun j _ wr => ∃ y : Nat, y ≤ n ∧ j = .int .i64 y ∧ Hid (MkE F G kb a w wr n (bitsOf s (x + 1)) (bitsOf (fun k => r (k / n) (k % n)) (x * n + y)))) (fun j _ _ => n - (intOf j).toNat)
        case atStart => exact ⟨0, by omega, rfl, HI.out⟩
        case round =>
          obtain ⟨y, hy, rfl, HJ⟩ := hrel
          by_cases hlt2 : y < n
          · obtain ⟨c0, c1', c2', f0, f1, f2, hb⟩ := HJ.out.out.cells
            have hxy : x * n + y ≤ 64 := by
              have h1 : x * n ≤ 7 * 8 := Nat.mul_le_mul (by omega) hn
              omega
            have z0 : (bitsOf (fun k => r (k / n) (k % n)) (x * n + y)).size ≤ 64 := by rw [bitsOf_size]; exact hxy
            have z1 : (bitS (r x y)).size ≤ 1 := Nat.le_refl _
            have HG : Hid (bitsOf (fun k => r (k / n) (k % n)) (x * n + (y + 1)) = bitsOf (fun k => r (k / n) (k % n)) (x * n + y) ++ bitS (r x y)) := by
              show bitsOf (fun k => r (k / n) (k % n)) (x * n + y + 1) = _
              rw [bitsOf_succ]
              exact congrArg (fun b => bitsOf (fun k => r (k / n) (k % n)) (x * n + y) ++ bitS b) (grid_at (r := r) (x := x) hlt2)
            clear hxy
            generalize bitsOf (fun k => r (k / n) (k % n)) (x * n + y) = G at *
            go_wp2_with fail
            have HD := Lib.hid HJ.out.drew
            obtain ⟨G', hm, hG', g0, g1⟩ := HD.out.memo
            have HG' := Lib.hid hG'
            clear hG'
            go_region_with (first | (go_at_call 45; refine (bitOf_any _ _).mono ?_; rintro e w' ⟨rfl, rfl⟩) | ((with_reducible refine (HR.out x y _ G' hlt hlt2 ?_ ?_).mono ?_); (exact HD.out.old); (exact hm); rintro e w1 ⟨rfl, hb1⟩; have HI1 := Lib.hid (HD.out.call hm HG'.out g0 g1 hb1); obtain ⟨i0, i1, i2, j0, j1, j2, hbb⟩ := HI1.out.out.cells; clear hb1))
            all_goals
              have HI2 := Lib.hid (HI1.out.set2 (G ++ bitS (r x y)))
              go_wp2_with fail
              go_roundw
              case rel =>
                refine ⟨y + 1, by omega, by go_num, ?_⟩
                rw [HG.out]
                exact HI2.out
              case measure => simp [intOf]; omega
          · have HI2 : Hid (MkE F G kb a w wr n (bitsOf s (x + 1)) (bitsOf (fun k => r (k / n) (k % n)) ((x + 1) * n))) := by
              have h := HJ.out
              rw [show x * n + y = (x + 1) * n by rw [Nat.add_mul, Nat.one_mul]; omega] at h
              exact h
            go_wp2_with fail
            go_roundw
            case rel => exact ⟨x + 1, by omega, by go_num, HI2.out⟩
            case measure => simp [intOf]; omega
    · obtain ⟨c0, c1', c2', f0, f1, f2, hb⟩ := HI.out.out.cells
      obtain ⟨d0, d1, d2, g0, g1, g2, hb'⟩ := HI.out.res.cells
      have hxn : x = n := by omega
      subst hxn
      go_wp2_with fail
      refine bodyPost_ret (v := strV x (bitsOf s x) (gridOf r x)) ?_ rfl ⟨rfl, ?_⟩
      · exact results_str rfl rfl HI.out.res.set3
      · exact HI.out.fin _ _ _
end Go.Proofs.YtdcnpjekmnlgjaaGreatDoor
