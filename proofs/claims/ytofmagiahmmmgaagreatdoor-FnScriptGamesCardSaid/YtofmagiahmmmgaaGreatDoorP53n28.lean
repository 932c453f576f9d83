/- Contracts of the program's functions and what they compute: part 28. Conditions: those that each theorem states. -/
import Derived.Test.YtofmagiahmmmgaaGreatDoorP53n26
import Derived.Test.YtofmagiahmmmgaaGreatDoorP53n27
namespace Go.Proofs.YtofmagiahmmmgaaGreatDoor
open Go.RowKit
set_option linter.unusedVariables false
set_option maxRecDepth 100000
/-- The formula that tells two lists apart. -/
def tellF : Nat → Gs.St → List Nat → Gs.St → List Nat → ByteArray
  | 0, a, la, b, lb => ffB a la b lb
  | k + 1, a, la, b, lb =>
    if Gs.same a la b lb = false then ffB a la b lb
    else match noRep a la b lb k with
      | some x => quB ⟨#[83]⟩ la.length ((List.range b.n).map fun y => tellF k a (la ++ [x]) b (lb ++ [y]))
      | none => match noRep b lb a la k with
        | some y => quB ⟨#[33, 83]⟩ la.length ((List.range a.n).map fun x => tellF k b (lb ++ [y]) a (la ++ [x]))
        | none => ByteArray.empty
theorem szF_4 : ∀ t, 4 ≤ szF t
  | 0 => Nat.le_refl _
  | t + 1 => by show 4 ≤ 3 + 8 * (szF t + 1); omega
theorem tellF_size : ∀ (k : Nat) (a : Gs.St) (la : List Nat) (b : Gs.St) (lb : List Nat), 1 ≤ a.n → a.n ≤ 8 → 1 ≤ b.n → b.n ≤ 8 → (tellF k a la b lb).size ≤ szF k
  | 0, a, la, b, lb, _, _, _, _ => ffB_size a la b lb
  | k + 1, a, la, b, lb, h1, h2, h3, h4 => by
    unfold tellF
    split
    · exact Nat.le_trans (ffB_size a la b lb) (szF_4 _)
    · split
      · refine quB_size (by decide) (by simp; omega) (by simp; omega) (fun f hf => ?_)
        obtain ⟨y, _, rfl⟩ := List.mem_map.1 hf
        exact tellF_size k _ _ _ _ h1 h2 h3 h4
      · split
        · refine quB_size (by decide) (by simp; omega) (by simp; omega) (fun f hf => ?_)
          obtain ⟨y, _, rfl⟩ := List.mem_map.1 hf
          exact tellF_size k _ _ _ _ h3 h4 h1 h2
        · exact Nat.zero_le _
theorem noRep_wins {a : Gs.St} {la : List Nat} {b : Gs.St} {lb : List Nat} {k x : Nat} (hl : la.length = lb.length) (h : noRep a la b lb k = some x) : x < a.n ∧ ∀ y, y < b.n → Gs.wins k a (la ++ [x]) b (lb ++ [y]) = false := by
  unfold noRep at h
  refine ⟨List.mem_range.1 (List.mem_of_find?_eq_some h), fun y hy => ?_⟩
  have h1 := List.find?_some h
  have h2 : (replyB a la b lb k x).isSome = false := by simpa using h1
  unfold replyB at h2
  unfold Gs.wins
  rw [Gs.same_snoc hl, ← Bool.not_eq_true]
  intro hh
  rw [Bool.and_eq_true, Bool.and_eq_true] at hh
  rw [← Bool.not_eq_true] at h2
  exact h2 (List.find?_isSome.2 ⟨y, List.mem_range.2 hy, by rw [hh.1.2, hh.2]; rfl⟩)
theorem noRep_some {a : Gs.St} {la : List Nat} {b : Gs.St} {lb : List Nat} {k : Nat} (hs : Gs.same a la b lb = true) (hw : Gs.wins (k + 1) a la b lb = false) (h : noRep a la b lb k = none) : ∃ y, noRep b lb a la k = some y := by
  unfold Gs.wins at hw
  rw [hs, Bool.true_and, goes_reply] at hw
  cases hn : noRep b lb a la k with
  | some y => exact ⟨y, rfl⟩
  | none =>
    unfold noRep at h hn
    rw [List.find?_eq_none] at h hn
    rw [Bool.and_eq_false_iff] at hw
    rcases hw with hw | hw
    · rw [List.all_eq_false] at hw
      obtain ⟨x, hx, hr⟩ := hw
      exact absurd (by simpa using hr) (h x hx)
    · rw [List.all_eq_false] at hw
      obtain ⟨x, hx, hr⟩ := hw
      exact absurd (by simpa using hr) (hn x hx)
/-- What tellApart does, for so many rounds. -/
def TellOK (r : Nat) : Prop := ∀ (n : Nat) (S R : ByteArray) (m : Nat) (S2 R2 : ByteArray) (va vb : Value) (la lb : List Nat) (w : World), Szs n S R → Szs m S2 R2 → la.length = lb.length → la.length + r ≤ 3 →
  (∀ z ∈ la, z < n) → (∀ z ∈ lb, z < m) → NumsAt w va la → NumsAt w vb lb → Gs.wins r (stOf n S R) la (stOf m S2 R2) lb = false →
  Calls Tryz.prog 25 #[strV n S R, va, strV m S2 R2, vb, .int .i64 (r : Int)] w fun e w' => e = .returned (.tuple #[.string (tellF r (stOf n S R) la (stOf m S2 R2) lb), .bool true]) ∧ Below w.heap.size w w'
theorem mem_at {la : List Nat} {n : Nat} (h : ∀ z ∈ la, z < n) : ∀ j, j < la.length → la.getD j 0 < n := fun j hj => by
  rw [List.getD_eq_getElem?_getD, List.getElem?_eq_getElem hj]
  exact h _ (List.getElem_mem hj)
/-- Elements that already differ. -/
theorem tell_fact (r n : Nat) (S R : ByteArray) (m : Nat) (S2 R2 : ByteArray) (va vb : Value) (la lb : List Nat) (w : World) (hs1 : Szs n S R) (hs2 : Szs m S2 R2) (hl : la.length = lb.length) (hl3 : la.length + r ≤ 3)
    (ha : ∀ z ∈ la, z < n) (hb : ∀ z ∈ lb, z < m) (hva : NumsAt w va la) (hvb : NumsAt w vb lb) (hs : Gs.same (stOf n S R) la (stOf m S2 R2) lb = false) :
    Calls Tryz.prog 25 #[strV n S R, va, strV m S2 R2, vb, .int .i64 (r : Int)] w fun e w' => e = .returned (.tuple #[.string (tellF r (stOf n S R) la (stOf m S2 R2) lb), .bool true]) ∧ Below w.heap.size w w' := by
  have HT := Lib.hid (Two.new w n S R m S2 R2)
  unfold boxS at HT
  have hSm := fun w' (h : Below w.heap.size w w') => sameWay_any n S R m S2 R2 va vb la lb w' hs1.s hs1.r hs1.n8 hs2.s hs2.r hs2.n8 (hva.below h) (hvb.below h) hl (by omega) ha hb
  have hFf := fun w' (h : Below w.heap.size w w') => firstFact_any n S R m S2 R2 va vb la lb w' hs1 hs2 hl (by omega) (mem_at ha) (mem_at hb) (hva.below h) (hvb.below h)
  have HR : Hid (tellF r (stOf n S R) la (stOf m S2 R2) lb = ffB (stOf n S R) la (stOf m S2 R2) lb) := by
    cases r with
    | zero => rfl
    | succ k => show _ = _; unfold tellF; rw [if_pos hs]
  rw [hs] at hSm
  rw [HR.out]
  generalize ffB (stOf n S R) la (stOf m S2 R2) lb = F at *
  obtain ⟨a, cap, rfl, _, _, _⟩ := hva.view
  obtain ⟨a2, cap2, rfl, _, _, _⟩ := hvb.view
  unfold strV at hSm hFf
  have HSm := Lib.hid hSm; have HFf := Lib.hid hFf
  clear hSm hFf hs1 hs2 ha hb hva hvb hs HR hl hl3
  obtain ⟨c0, c1, c2, f0, f1, f2, hl1⟩ := HT.out.a.cells
  obtain ⟨d0, d1, d2, g0, g1, g2, hl2⟩ := HT.out.b.cells
  unfold strV
  go_enter Tryz.func25, Tryz.ntmps25
  go_wp2_with fail
  refine (HSm.out _ HT.out.old).mono ?_; rintro e w1 ⟨rfl, hb⟩
  have HT1 := Lib.hid (HT.out.below hb)
  clear hb c0 c1 c2 f0 f1 f2 hl1 d0 d1 d2 g0 g1 g2 hl2
  obtain ⟨c0, c1, c2, f0, f1, f2, hl1⟩ := HT1.out.a.cells
  obtain ⟨d0, d1, d2, g0, g1, g2, hl2⟩ := HT1.out.b.cells
  go_wp2_with fail
  refine (HFf.out _ HT1.out.old).mono ?_; rintro e w2 ⟨rfl, hb⟩
  have HT2 := Lib.hid (HT1.out.below hb)
  clear hb
  go_wp2_with fail
  go_ret2
  exact ⟨rfl, HT2.out.old⟩
theorem SBlk.put {W : World} {b : Nat} {n n' : Int} {S R S' R' : ByteArray} (h : SBlk W b n S R) : SBlk (((W.setCell ⟨b, 0, none⟩ (.int .i64 n')).setCell ⟨b, 1, none⟩ (.string S')).setCell ⟨b, 2, none⟩ (.string R')) b n' S' R' := by
  unfold SBlk at *
  simp [World.setCell, Array.getElem?_modify, h]
theorem SBlk.apart {W : World} {b c : Nat} {n n' : Int} {S R S' R' : ByteArray} (h : SBlk W b n S R) (hne : b ≠ c) : SBlk (((W.setCell ⟨c, 0, none⟩ (.int .i64 n')).setCell ⟨c, 1, none⟩ (.string S')).setCell ⟨c, 2, none⟩ (.string R')) b n S R := by
  unfold SBlk at *
  rw [Below.heap_setCell _ _ _ _ hne, Below.heap_setCell _ _ _ _ hne, Below.heap_setCell _ _ _ _ hne]
  exact h
theorem below_set {B : Nat} {w W : World} {b o : Nat} {v : Value} (h : Below B w W) (hb : B ≤ b) : Below B w (W.setCell ⟨b, o, none⟩ v) := by
  refine ⟨h.os, h.tape, h.output, by simpa [World.setCell] using h.size, fun k hk => ?_⟩
  rw [Below.heap_setCell _ _ _ _ (by show k ≠ b; omega)]
  exact h.block k hk
/-- The two structures change places. -/
theorem Two.turn {w W : World} {n m : Nat} {S R S2 R2 : ByteArray} (h : Two w W n S R m S2 R2) : Two w ((((((W.setCell ⟨w.heap.size, 0, none⟩ (.int .i64 (m : Int))).setCell ⟨w.heap.size, 1, none⟩ (.string S2)).setCell ⟨w.heap.size, 2, none⟩ (.string R2)).setCell ⟨w.heap.size + 1, 0, none⟩ (.int .i64 (n : Int))).setCell ⟨w.heap.size + 1, 1, none⟩ (.string S)).setCell ⟨w.heap.size + 1, 2, none⟩ (.string R)) m S2 R2 n S R := by
  refine ⟨h.a.put.apart (by omega), (h.b.apart (by omega)).put, ?_⟩
  refine below_set (below_set (below_set (below_set (below_set (below_set h.old ?_) ?_) ?_) ?_) ?_) ?_ <;> omega
set_option maxHeartbeats 4000000 in
/-- A choice in the second one. -/
theorem tell_b (k : Nat) (HIH : Hid (TellOK k)) (n : Nat) (S R : ByteArray) (m : Nat) (S2 R2 : ByteArray) (va vb : Value) (la lb : List Nat) (y : Nat) (w : World) (hs1 : Szs n S R) (hs2 : Szs m S2 R2) (hl : la.length = lb.length) (hl3 : la.length + (k + 1) ≤ 3)
    (ha : ∀ z ∈ la, z < n) (hb : ∀ z ∈ lb, z < m) (hva : NumsAt w va la) (hvb : NumsAt w vb lb) (hs : Gs.same (stOf n S R) la (stOf m S2 R2) lb = true) (hn1 : noRep (stOf n S R) la (stOf m S2 R2) lb k = none) (hn2 : noRep (stOf m S2 R2) lb (stOf n S R) la k = some y) :
    Calls Tryz.prog 25 #[strV n S R, va, strV m S2 R2, vb, .int .i64 ((k : Int) + 1)] w fun e w' => e = .returned (.tuple #[.string (tellF (k + 1) (stOf n S R) la (stOf m S2 R2) lb), .bool true]) ∧ Below w.heap.size w w' := by
  have HT := Lib.hid (Two.new w n S R m S2 R2)
  unfold boxS at HT
  have hSm := fun w' (h : Below w.heap.size w w') => sameWay_any n S R m S2 R2 va vb la lb w' hs1.s hs1.r hs1.n8 hs2.s hs2.r hs2.n8 (hva.below h) (hvb.below h) hl (by omega) ha hb
  have hFm := fun w' (h : Below w.heap.size w w') => firstMove_any k (by omega) n S R m S2 R2 va vb la lb w' ⟨hs1.s, hs1.r, hs1.n8, hs2.s, hs2.r, hs2.n8, hl, by omega, ha, hb⟩ (hva.below h) (hvb.below h) hs
  rw [moveV_b hn1 hn2] at hFm
  rw [hs] at hSm
  obtain ⟨hy, hwy⟩ := noRep_wins hl.symm hn2
  have hy : y < m := hy
  obtain ⟨g, hg⟩ : ∃ g : Nat → ByteArray, (fun x : Nat => tellF k (stOf m S2 R2) (lb ++ [y]) (stOf n S R) (la ++ [x])) = g := ⟨_, rfl⟩
  have HGE := Lib.hid hg
  have HQ0 : Hid (tellF (k + 1) (stOf n S R) la (stOf m S2 R2) lb = quB ⟨#[33, 83]⟩ lb.length ((List.range n).map g)) := by
    show _ = _
    unfold tellF
    rw [if_neg (by rw [hs]; decide), hn1, hn2, ← hg, ← hl]
    rfl
  rw [HQ0.out]
  have HGS : Hid (∀ x, (g x).size ≤ 355) := fun x => by
    rw [← HGE.out]
    exact Nat.le_trans (tellF_size k _ _ _ _ hs2.n1 hs2.n8 hs1.n1 hs1.n8) (szF_le (by omega))
  have hm8 := hs1.n8
  have hm1 := hs1.n1
  have HREC : Hid (∀ u v x w', x < n → NumsAt w' u (lb ++ [y]) → NumsAt w' v (la ++ [x]) → Calls Tryz.prog 25 #[strV m S2 R2, u, strV n S R, v, .int .i64 (k : Int)] w' fun e w2 => e = .returned (.tuple #[.string (g x), .bool true]) ∧ Below w'.heap.size w' w2) := fun u v x w' hx hu hv => by
    rw [← HGE.out]
    exact HIH.out m S2 R2 n S R u v _ _ w' hs2 hs1 (by simp [hl]) (by simp; omega) (fun z hz => by rcases List.mem_append.1 hz with h | h; exact hb z h; simp at h; omega) (fun z hz => by rcases List.mem_append.1 hz with h | h; exact ha z h; simp at h; omega) hu hv (hwy x hx)
  have HNA := Lib.hid hva
  have HNB := Lib.hid hvb
  have HNM := Lib.hid (fun w => nameOf_any lb.length w (by omega))
  have HVN : Hid (⟨#[UInt8.ofNat (97 + lb.length)]⟩ = vnB lb.length) := rfl
  rw [HVN.out] at HNM
  have HVS : Hid ((vnB lb.length).size = 1) := rfl
  have HQ : Hid (quB ⟨#[33, 83]⟩ lb.length ((List.range n).map g) = ⟨#[33, 83]⟩ ++ vnB lb.length ++ joinP ⟨#[38]⟩ (uniqL ((List.range n).map g))) := rfl
  have HQZ : Hid ((quB ⟨#[33, 83]⟩ lb.length ((List.range n).map g)).size ≤ 4000) := by
    have := quB_size (head := ⟨#[33, 83]⟩) (i := lb.length) (c := 355) (parts := (List.range n).map g) (by decide) (by simp; omega) (by simp; omega) (fun f hf => by
      obtain ⟨y, _, rfl⟩ := List.mem_map.1 hf
      exact HGS.out y)
    show _ ≤ _
    omega
  obtain ⟨RES, hres⟩ : ∃ r, quB ⟨#[33, 83]⟩ lb.length ((List.range n).map g) = r := ⟨_, rfl⟩
  rw [hres] at HQ HQZ ⊢
  have HSH := Lib.hid (fun w => short_any RES w HQZ.out)
  generalize vnB lb.length = vi at *
  have HL1 : Hid (lb.length ≤ 1000) := by show _ ≤ _; omega
  have HL2 : Hid (la.length ≤ 1000) := by show _ ≤ _; omega
  obtain ⟨a, cap, rfl, _, _, _⟩ := hva.view
  obtain ⟨a2, cap2, rfl, _, _, _⟩ := hvb.view
  have hwk : IntKind.i64.wrap (k : Int) = (k : Int) := IntWalk.i64_in _ (by omega)
  have HSP : Hid (∀ W, Two w W n S R m S2 R2 → Two w ((((((W.setCell ⟨w.heap.size, 0, none⟩ (.int .i64 (m : Int))).setCell ⟨w.heap.size, 1, none⟩ (.string S2)).setCell ⟨w.heap.size, 2, none⟩ (.string R2)).setCell ⟨w.heap.size + 1, 0, none⟩ (.int .i64 (n : Int))).setCell ⟨w.heap.size + 1, 1, none⟩ (.string S)).setCell ⟨w.heap.size + 1, 2, none⟩ (.string R)) m S2 R2 n S R) := fun W h => h.turn
  unfold strV at hSm hFm HREC
  have HSm := Lib.hid hSm; have HFm := Lib.hid hFm
  clear hSm hFm hs1 hs2 ha hb hva hvb hs HQ0 hn1 hn2 hg hwy hl hl3 hres HVN HIH
  obtain ⟨c0, c1, c2, f0, f1, f2, hl1⟩ := HT.out.a.cells
  obtain ⟨d0, d1, d2, g0, g1, g2, hl2⟩ := HT.out.b.cells
  unfold strV
  go_enter Tryz.func25, Tryz.ntmps25
  go_wp2_with fail
  refine (HSm.out _ HT.out.old).mono ?_; rintro e w1 ⟨rfl, hb⟩
  have HT1 := Lib.hid (HT.out.below hb)
  clear hb c0 c1 c2 f0 f1 f2 hl1 d0 d1 d2 g0 g1 g2 hl2
  obtain ⟨c0, c1, c2, f0, f1, f2, hl1⟩ := HT1.out.a.cells
  obtain ⟨d0, d1, d2, g0, g1, g2, hl2⟩ := HT1.out.b.cells
  go_wp2_with fail
  refine (HFm.out _ HT1.out.old).mono ?_; rintro e w2 ⟨rfl, hb⟩
  have HT2 := Lib.hid (HT1.out.below hb)
  clear hb c0 c1 c2 f0 f1 f2 hl1 d0 d1 d2 g0 g1 g2 hl2 HSm HFm HT HT1
  obtain ⟨c0, c1, c2, f0, f1, f2, hl1⟩ := HT2.out.a.cells
  obtain ⟨d0, d1, d2, g0, g1, g2, hl2⟩ := HT2.out.b.cells
  go_upto_region 8 with fail
  have HT3 := Lib.hid (HSP.out _ HT2.out)
  obtain ⟨W3, hW3⟩ : ∃ W, ((((((w2.setCell ⟨w.heap.size, 0, none⟩ (.int .i64 (m : Int))).setCell ⟨w.heap.size, 1, none⟩ (.string S2)).setCell ⟨w.heap.size, 2, none⟩ (.string R2)).setCell ⟨w.heap.size + 1, 0, none⟩ (.int .i64 (n : Int))).setCell ⟨w.heap.size + 1, 1, none⟩ (.string S)).setCell ⟨w.heap.size + 1, 2, none⟩ (.string R)) = W := ⟨_, rfl⟩
  rw [hW3] at HT3 ⊢
  clear hW3
  clear c0 c1 c2 f0 f1 f2 hl1 d0 d1 d2 g0 g1 g2 hl2 HT2 HSP
  have HP0 : Hid (Strs W3 (W3.alloc (.cells #[] 9)) (.slice (some ⟨W3.heap.size, 0, none⟩) 0 0) ((List.range 0).map g)) := Strs.lit0 W3
  obtain ⟨d0, d1, d2, g0, g1, g2, hl2⟩ := (HT3.out.below HP0.out.old).b.cells
  go_wp2_with fail
  clear d0 d1 d2 g0 g1 g2 hl2
  go_loopw [50, 16, 17, 18, 19] (fun q o _ _ _ wr => ∃ z : Nat, z ≤ n ∧ q = .int .i64 (z : Int) ∧ Hid (Strs W3 wr o ((List.range z).map g))) (fun q _ _ _ _ _ => n - (intOf q).toNat)
  case atStart => exact ⟨0, by omega, rfl, HP0⟩
  case round =>
    clear HP0
    obtain ⟨z, hz, rfl, HP⟩ := hrel
    by_cases hlt : z < n
    · have hzI : (z : Int) < (n : Int) := by omega
      have HTR := Lib.hid (HT3.out.below HP.out.old)
      have HRS : Hid ((List.range (z + 1)).map g = (List.range z).map g ++ [g z]) := by show _ = _; rw [List.range_succ, List.map_append]; rfl
      have HGO := Lib.hid (fun u v w' h1 h2 => HREC.out u v z w' hlt h1 h2)
      obtain ⟨f, hf⟩ : ∃ f, g z = f := ⟨_, rfl⟩
      rw [hf] at HRS HGO
      clear hf
      go_wp2_with fail
      obtain ⟨a0, a1, a2', _, _, _, _⟩ := HTR.out.a.cells
      obtain ⟨b0, b1, b2, _, _, _, _⟩ := HTR.out.b.cells
      have HBK : Hid (Below wr.heap.size wr wr.drew) := (Below.refl _ _).drew
      have KS : Hid (∀ w', Below wr.heap.size wr w' → (w'.cell? ⟨w.heap.size, 0, none⟩ = some (.int .i64 (m : Int)) ∧ w'.cell? ⟨w.heap.size, 1, none⟩ = some (.string S2) ∧ w'.cell? ⟨w.heap.size, 2, none⟩ = some (.string R2) ∧ w'.cell? ⟨w.heap.size + 1, 0, none⟩ = some (.int .i64 (n : Int)) ∧ w'.cell? ⟨w.heap.size + 1, 1, none⟩ = some (.string S) ∧ w'.cell? ⟨w.heap.size + 1, 2, none⟩ = some (.string R))) := fun w' h =>
        ⟨Since.cell a0 ⟨w', h⟩, Since.cell a1 ⟨w', h⟩, Since.cell a2' ⟨w', h⟩, Since.cell b0 ⟨w', h⟩, Since.cell b1 ⟨w', h⟩, Since.cell b2 ⟨w', h⟩⟩
      go_region_held3 (fun w' => w'.cell? ⟨w.heap.size, 0, none⟩ = some (.int .i64 (m : Int)) ∧ w'.cell? ⟨w.heap.size, 1, none⟩ = some (.string S2) ∧ w'.cell? ⟨w.heap.size, 2, none⟩ = some (.string R2) ∧ w'.cell? ⟨w.heap.size + 1, 0, none⟩ = some (.int .i64 (n : Int)) ∧ w'.cell? ⟨w.heap.size + 1, 1, none⟩ = some (.string S) ∧ w'.cell? ⟨w.heap.size + 1, 2, none⟩ = some (.string R))
        (first | exact KS.out _ HBK.out | go_keep)
        (first | ((with_reducible refine (with_any (.slice a2 lb.length cap2) lb y _ ?_ ?_).mono ?_); (exact HNB.out.below (HTR.out.old.trans (HBK.out.mono HTR.out.old.size))); (exact HL1.out); rintro e w3 ⟨v3, rfl, ho, hb⟩; have HO3 := Lib.hid ho; have HBK := Lib.hid (HBK.out.trans (hb.mono HBK.out.size)); clear ho hb) | ((with_reducible refine (with_any (.slice a la.length cap) la z _ ?_ ?_).mono ?_); (exact HNA.out.below (HTR.out.old.trans (HBK.out.mono HTR.out.old.size))); (exact HL2.out); rintro e w4 ⟨v4, rfl, ho, hb⟩; have HN3 := Lib.hid (HO3.out.nums.below hb); have HN4 := Lib.hid ho.nums; have HBK := Lib.hid (HBK.out.trans (hb.mono HBK.out.size)); clear ho hb) | ((with_reducible refine (HGO.out v3 v4 _ HN3.out HN4.out).mono ?_); rintro e w5 ⟨rfl, hb⟩; have HBK := Lib.hid (HBK.out.trans (hb.mono HBK.out.size)); clear hb) | fail)
      have HP3 := Lib.hid (HP.out.kept HBK.out)
      have HL3 : Hid (((List.range z).map g).length ≤ 2000000) := by show _ ≤ _; simp; omega
      clear a0 a1 a2' b0 b1 b2 KS
      go_wp2_with (first | (at_builtin; refine wpList_app1 HP3.out HL3.out rfl (.tmp 69) (.tmp 71) rfl f _ rfl rfl rfl ?_; intro v' w' ho; have HP9 := Lib.hid ho; clear ho) | fail)
      go_roundw
      case rel => exact ⟨z + 1, by omega, by go_num, by rw [HRS.out]; exact HP9⟩
      case measure => simp [intOf]; omega
    · obtain rfl : z = n := by omega
      obtain ⟨PA, hPA⟩ : ∃ P, (List.range z).map g = P := ⟨_, rfl⟩
      have HPAL : Hid (PA.length = z) := by show _ = _; rw [← hPA]; simp
      have HPAS : Hid (∀ f ∈ PA, f.size ≤ 355) := fun f hf => by
        rw [← hPA] at hf
        obtain ⟨z, _, rfl⟩ := List.mem_map.1 hf
        exact HGS.out z
      rw [hPA] at HP HQ
      clear hPA
      obtain ⟨U, hU⟩ : ∃ U, uniqL PA = U := ⟨_, rfl⟩
      have HUF : Hid (U.length ≤ 8 ∧ sumL U ≤ 8 * 355) := by
        obtain ⟨q1, q2, q3⟩ := uniqL_facts PA
        have q4 := sumL_le (L := uniqL PA) (b := 355) (fun f hf => HPAS.out f (q1 f hf))
        have q5 : (uniqL PA).length * 355 ≤ 8 * 355 := Nat.mul_le_mul_right _ (by have := HPAL.out; omega)
        rw [← hU]
        exact ⟨by have := HPAL.out; omega, by omega⟩
      rw [hU] at HQ
      obtain ⟨ug, uc, rfl, m1, m2, m3, m4, m5⟩ := HP.out.cells
      have HWE := Lib.hid (withoutEqual_any PA ug uc wr m3 m4 (by have := HPAL.out; omega) m2 m5)
      rw [hU] at HWE
      clear hU m5
      have hz0 : ¬ 9223372036854775807 < (⟨#[33, 83]⟩ : ByteArray).size + vi.size := by show ¬ _ < 2 + vi.size; have := HVS.out; omega
      go_wp2_with fail
      refine (HNM.out _).mono ?_; rintro e w1 ⟨rfl, hw1⟩; rw [← hw1]; clear hw1
      go_wp2_with fail
      refine HWE.out.mono ?_; rintro e w2 ⟨v2, rfl, hs⟩
      have HO2 := Lib.hid (HP.out.old.trans (hs.old.mono HP.out.old.size))
      obtain ⟨xg, xc, rfl, n1, n2, n3, n4, n5⟩ := hs.cells
      have HJ := Lib.hid (joined_any ⟨#[38]⟩ U xg xc w2 (by decide) (by have := HUF.out.1; omega) (by have := HUF.out.2; omega) n3 n4 n5)
      generalize joinP ⟨#[38]⟩ U = J at *
      have hz2 : ¬ 9223372036854775807 < (⟨#[33, 83]⟩ ++ vi : ByteArray).size + J.size := by
        have h1 := HQZ.out
        rw [HQ.out, ByteArray.size_append] at h1
        omega
      clear hs n5 HWE
      go_wp2_with fail
      refine HJ.out.mono ?_; rintro e w3 ⟨rfl, hw3⟩; rw [← hw3]; clear hw3
      go_wp2_with fail
      rw [← HQ.out]
      refine (HSH.out _).mono ?_; rintro e w4 ⟨rfl, hw4⟩; rw [hw4]; clear hw4
      go_wp2_with fail
      go_ret2
      exact ⟨rfl, HT3.out.old.trans (HO2.out.mono HT3.out.old.size)⟩
set_option maxHeartbeats 4000000 in
/-- A choice in the first one. -/
theorem tell_a (k : Nat) (HIH : Hid (TellOK k)) (n : Nat) (S R : ByteArray) (m : Nat) (S2 R2 : ByteArray) (va vb : Value) (la lb : List Nat) (y : Nat) (w : World) (hs1 : Szs n S R) (hs2 : Szs m S2 R2) (hl : la.length = lb.length) (hl3 : la.length + (k + 1) ≤ 3)
    (ha : ∀ z ∈ la, z < n) (hb : ∀ z ∈ lb, z < m) (hva : NumsAt w va la) (hvb : NumsAt w vb lb) (hs : Gs.same (stOf n S R) la (stOf m S2 R2) lb = true) (hn2 : noRep (stOf n S R) la (stOf m S2 R2) lb k = some y) :
    Calls Tryz.prog 25 #[strV n S R, va, strV m S2 R2, vb, .int .i64 ((k : Int) + 1)] w fun e w' => e = .returned (.tuple #[.string (tellF (k + 1) (stOf n S R) la (stOf m S2 R2) lb), .bool true]) ∧ Below w.heap.size w w' := by
  have HT := Lib.hid (Two.new w n S R m S2 R2)
  unfold boxS at HT
  have hSm := fun w' (h : Below w.heap.size w w') => sameWay_any n S R m S2 R2 va vb la lb w' hs1.s hs1.r hs1.n8 hs2.s hs2.r hs2.n8 (hva.below h) (hvb.below h) hl (by omega) ha hb
  have hFm := fun w' (h : Below w.heap.size w w') => firstMove_any k (by omega) n S R m S2 R2 va vb la lb w' ⟨hs1.s, hs1.r, hs1.n8, hs2.s, hs2.r, hs2.n8, hl, by omega, ha, hb⟩ (hva.below h) (hvb.below h) hs
  rw [moveV_a hn2] at hFm
  rw [hs] at hSm
  obtain ⟨hy, hwy⟩ := noRep_wins hl hn2
  have hy : y < n := hy
  obtain ⟨g, hg⟩ : ∃ g : Nat → ByteArray, (fun x : Nat => tellF k (stOf n S R) (la ++ [y]) (stOf m S2 R2) (lb ++ [x])) = g := ⟨_, rfl⟩
  have HGE := Lib.hid hg
  have HQ0 : Hid (tellF (k + 1) (stOf n S R) la (stOf m S2 R2) lb = quB ⟨#[83]⟩ la.length ((List.range m).map g)) := by
    show _ = _
    unfold tellF
    rw [if_neg (by rw [hs]; decide), hn2, ← hg]
    rfl
  rw [HQ0.out]
  have HGS : Hid (∀ x, (g x).size ≤ 355) := fun x => by
    rw [← HGE.out]
    exact Nat.le_trans (tellF_size k _ _ _ _ hs1.n1 hs1.n8 hs2.n1 hs2.n8) (szF_le (by omega))
  have hm8 := hs2.n8
  have hm1 := hs2.n1
  have HREC : Hid (∀ u v x w', x < m → NumsAt w' u (la ++ [y]) → NumsAt w' v (lb ++ [x]) → Calls Tryz.prog 25 #[strV n S R, u, strV m S2 R2, v, .int .i64 (k : Int)] w' fun e w2 => e = .returned (.tuple #[.string (g x), .bool true]) ∧ Below w'.heap.size w' w2) := fun u v x w' hx hu hv => by
    rw [← HGE.out]
    exact HIH.out n S R m S2 R2 u v _ _ w' hs1 hs2 (by simp [hl]) (by simp; omega) (fun z hz => by rcases List.mem_append.1 hz with h | h; exact ha z h; simp at h; omega) (fun z hz => by rcases List.mem_append.1 hz with h | h; exact hb z h; simp at h; omega) hu hv (hwy x hx)
  have HNA := Lib.hid hva
  have HNB := Lib.hid hvb
  have HNM := Lib.hid (fun w => nameOf_any la.length w (by omega))
  have HVN : Hid (⟨#[UInt8.ofNat (97 + la.length)]⟩ = vnB la.length) := rfl
  rw [HVN.out] at HNM
  have HVS : Hid ((vnB la.length).size = 1) := rfl
  have HQ : Hid (quB ⟨#[83]⟩ la.length ((List.range m).map g) = ⟨#[83]⟩ ++ vnB la.length ++ joinP ⟨#[38]⟩ (uniqL ((List.range m).map g))) := rfl
  have HQZ : Hid ((quB ⟨#[83]⟩ la.length ((List.range m).map g)).size ≤ 4000) := by
    have := quB_size (head := ⟨#[83]⟩) (i := la.length) (c := 355) (parts := (List.range m).map g) (by decide) (by simp; omega) (by simp; omega) (fun f hf => by
      obtain ⟨y, _, rfl⟩ := List.mem_map.1 hf
      exact HGS.out y)
    show _ ≤ _
    omega
  obtain ⟨RES, hres⟩ : ∃ r, quB ⟨#[83]⟩ la.length ((List.range m).map g) = r := ⟨_, rfl⟩
  rw [hres] at HQ HQZ ⊢
  have HSH := Lib.hid (fun w => short_any RES w HQZ.out)
  generalize vnB la.length = vi at *
  have HL1 : Hid (la.length ≤ 1000) := by show _ ≤ _; omega
  have HL2 : Hid (lb.length ≤ 1000) := by show _ ≤ _; omega
  obtain ⟨a, cap, rfl, _, _, _⟩ := hva.view
  obtain ⟨a2, cap2, rfl, _, _, _⟩ := hvb.view
  have hwk : IntKind.i64.wrap (k : Int) = (k : Int) := IntWalk.i64_in _ (by omega)
  have HSP : Hid (∀ W, Two w W n S R m S2 R2 → Two w ((((((W.setCell ⟨w.heap.size, 0, none⟩ (.int .i64 (m : Int))).setCell ⟨w.heap.size, 1, none⟩ (.string S2)).setCell ⟨w.heap.size, 2, none⟩ (.string R2)).setCell ⟨w.heap.size + 1, 0, none⟩ (.int .i64 (n : Int))).setCell ⟨w.heap.size + 1, 1, none⟩ (.string S)).setCell ⟨w.heap.size + 1, 2, none⟩ (.string R)) m S2 R2 n S R) := fun W h => h.turn
  unfold strV at hSm hFm HREC
  have HSm := Lib.hid hSm; have HFm := Lib.hid hFm
  clear hSm hFm hs1 hs2 ha hb hva hvb hs HQ0 hn2 hg hwy hl hl3 hres HVN HIH
  obtain ⟨c0, c1, c2, f0, f1, f2, hl1⟩ := HT.out.a.cells
  obtain ⟨d0, d1, d2, g0, g1, g2, hl2⟩ := HT.out.b.cells
  unfold strV
  go_enter Tryz.func25, Tryz.ntmps25
  go_wp2_with fail
  refine (HSm.out _ HT.out.old).mono ?_; rintro e w1 ⟨rfl, hb⟩
  have HT1 := Lib.hid (HT.out.below hb)
  clear hb c0 c1 c2 f0 f1 f2 hl1 d0 d1 d2 g0 g1 g2 hl2
  obtain ⟨c0, c1, c2, f0, f1, f2, hl1⟩ := HT1.out.a.cells
  obtain ⟨d0, d1, d2, g0, g1, g2, hl2⟩ := HT1.out.b.cells
  go_wp2_with fail
  refine (HFm.out _ HT1.out.old).mono ?_; rintro e w2 ⟨rfl, hb⟩
  have HT2 := Lib.hid (HT1.out.below hb)
  clear hb c0 c1 c2 f0 f1 f2 hl1 d0 d1 d2 g0 g1 g2 hl2 HSm HFm HT HT1
  obtain ⟨c0, c1, c2, f0, f1, f2, hl1⟩ := HT2.out.a.cells
  obtain ⟨d0, d1, d2, g0, g1, g2, hl2⟩ := HT2.out.b.cells
  go_upto_region 8 with fail
  obtain ⟨W3, hW3⟩ : ∃ W, w2 = W := ⟨_, rfl⟩
  have HT3 : Hid (Two w W3 n S R m S2 R2) := by rw [← hW3]; exact HT2.out
  rw [hW3]
  clear hW3
  clear c0 c1 c2 f0 f1 f2 hl1 d0 d1 d2 g0 g1 g2 hl2 HT2 HSP
  have HP0 : Hid (Strs W3 (W3.alloc (.cells #[] 9)) (.slice (some ⟨W3.heap.size, 0, none⟩) 0 0) ((List.range 0).map g)) := Strs.lit0 W3
  obtain ⟨d0, d1, d2, g0, g1, g2, hl2⟩ := (HT3.out.below HP0.out.old).b.cells
  go_wp2_with fail
  clear d0 d1 d2 g0 g1 g2 hl2
  go_loopw [50, 16, 17, 18, 19] (fun q o _ _ _ wr => ∃ z : Nat, z ≤ m ∧ q = .int .i64 (z : Int) ∧ Hid (Strs W3 wr o ((List.range z).map g))) (fun q _ _ _ _ _ => m - (intOf q).toNat)
  case atStart => exact ⟨0, by omega, rfl, HP0⟩
  case round =>
    clear HP0
    obtain ⟨z, hz, rfl, HP⟩ := hrel
    by_cases hlt : z < m
    · have hzI : (z : Int) < (m : Int) := by omega
      have HTR := Lib.hid (HT3.out.below HP.out.old)
      have HRS : Hid ((List.range (z + 1)).map g = (List.range z).map g ++ [g z]) := by show _ = _; rw [List.range_succ, List.map_append]; rfl
      have HGO := Lib.hid (fun u v w' h1 h2 => HREC.out u v z w' hlt h1 h2)
      obtain ⟨f, hf⟩ : ∃ f, g z = f := ⟨_, rfl⟩
      rw [hf] at HRS HGO
      clear hf
      go_wp2_with fail
      obtain ⟨a0, a1, a2', _, _, _, _⟩ := HTR.out.a.cells
      obtain ⟨b0, b1, b2, _, _, _, _⟩ := HTR.out.b.cells
      have HBK : Hid (Below wr.heap.size wr wr.drew) := (Below.refl _ _).drew
      have KS : Hid (∀ w', Below wr.heap.size wr w' → (w'.cell? ⟨w.heap.size, 0, none⟩ = some (.int .i64 (n : Int)) ∧ w'.cell? ⟨w.heap.size, 1, none⟩ = some (.string S) ∧ w'.cell? ⟨w.heap.size, 2, none⟩ = some (.string R) ∧ w'.cell? ⟨w.heap.size + 1, 0, none⟩ = some (.int .i64 (m : Int)) ∧ w'.cell? ⟨w.heap.size + 1, 1, none⟩ = some (.string S2) ∧ w'.cell? ⟨w.heap.size + 1, 2, none⟩ = some (.string R2))) := fun w' h =>
        ⟨Since.cell a0 ⟨w', h⟩, Since.cell a1 ⟨w', h⟩, Since.cell a2' ⟨w', h⟩, Since.cell b0 ⟨w', h⟩, Since.cell b1 ⟨w', h⟩, Since.cell b2 ⟨w', h⟩⟩
      go_region_held3 (fun w' => w'.cell? ⟨w.heap.size, 0, none⟩ = some (.int .i64 (n : Int)) ∧ w'.cell? ⟨w.heap.size, 1, none⟩ = some (.string S) ∧ w'.cell? ⟨w.heap.size, 2, none⟩ = some (.string R) ∧ w'.cell? ⟨w.heap.size + 1, 0, none⟩ = some (.int .i64 (m : Int)) ∧ w'.cell? ⟨w.heap.size + 1, 1, none⟩ = some (.string S2) ∧ w'.cell? ⟨w.heap.size + 1, 2, none⟩ = some (.string R2))
        (first | exact KS.out _ HBK.out | go_keep)
        (first | ((with_reducible refine (with_any (.slice a la.length cap) la y _ ?_ ?_).mono ?_); (exact HNA.out.below (HTR.out.old.trans (HBK.out.mono HTR.out.old.size))); (exact HL1.out); rintro e w3 ⟨v3, rfl, ho, hb⟩; have HO3 := Lib.hid ho; have HBK := Lib.hid (HBK.out.trans (hb.mono HBK.out.size)); clear ho hb) | ((with_reducible refine (with_any (.slice a2 lb.length cap2) lb z _ ?_ ?_).mono ?_); (exact HNB.out.below (HTR.out.old.trans (HBK.out.mono HTR.out.old.size))); (exact HL2.out); rintro e w4 ⟨v4, rfl, ho, hb⟩; have HN3 := Lib.hid (HO3.out.nums.below hb); have HN4 := Lib.hid ho.nums; have HBK := Lib.hid (HBK.out.trans (hb.mono HBK.out.size)); clear ho hb) | ((with_reducible refine (HGO.out v3 v4 _ HN3.out HN4.out).mono ?_); rintro e w5 ⟨rfl, hb⟩; have HBK := Lib.hid (HBK.out.trans (hb.mono HBK.out.size)); clear hb) | fail)
      have HP3 := Lib.hid (HP.out.kept HBK.out)
      have HL3 : Hid (((List.range z).map g).length ≤ 2000000) := by show _ ≤ _; simp; omega
      clear a0 a1 a2' b0 b1 b2 KS
      go_wp2_with (first | (at_builtin; refine wpList_app1 HP3.out HL3.out rfl (.tmp 69) (.tmp 71) rfl f _ rfl rfl rfl ?_; intro v' w' ho; have HP9 := Lib.hid ho; clear ho) | fail)
      go_roundw
      case rel => exact ⟨z + 1, by omega, by go_num, by rw [HRS.out]; exact HP9⟩
      case measure => simp [intOf]; omega
    · obtain rfl : z = m := by omega
      obtain ⟨PA, hPA⟩ : ∃ P, (List.range z).map g = P := ⟨_, rfl⟩
      have HPAL : Hid (PA.length = z) := by show _ = _; rw [← hPA]; simp
      have HPAS : Hid (∀ f ∈ PA, f.size ≤ 355) := fun f hf => by
        rw [← hPA] at hf
        obtain ⟨z, _, rfl⟩ := List.mem_map.1 hf
        exact HGS.out z
      rw [hPA] at HP HQ
      clear hPA
      obtain ⟨U, hU⟩ : ∃ U, uniqL PA = U := ⟨_, rfl⟩
      have HUF : Hid (U.length ≤ 8 ∧ sumL U ≤ 8 * 355) := by
        obtain ⟨q1, q2, q3⟩ := uniqL_facts PA
        have q4 := sumL_le (L := uniqL PA) (b := 355) (fun f hf => HPAS.out f (q1 f hf))
        have q5 : (uniqL PA).length * 355 ≤ 8 * 355 := Nat.mul_le_mul_right _ (by have := HPAL.out; omega)
        rw [← hU]
        exact ⟨by have := HPAL.out; omega, by omega⟩
      rw [hU] at HQ
      obtain ⟨ug, uc, rfl, m1, m2, m3, m4, m5⟩ := HP.out.cells
      have HWE := Lib.hid (withoutEqual_any PA ug uc wr m3 m4 (by have := HPAL.out; omega) m2 m5)
      rw [hU] at HWE
      clear hU m5
      have hz0 : ¬ 9223372036854775807 < (⟨#[83]⟩ : ByteArray).size + vi.size := by show ¬ _ < 1 + vi.size; have := HVS.out; omega
      go_wp2_with fail
      refine (HNM.out _).mono ?_; rintro e w1 ⟨rfl, hw1⟩; rw [← hw1]; clear hw1
      go_wp2_with fail
      refine HWE.out.mono ?_; rintro e w2 ⟨v2, rfl, hs⟩
      have HO2 := Lib.hid (HP.out.old.trans (hs.old.mono HP.out.old.size))
      obtain ⟨xg, xc, rfl, n1, n2, n3, n4, n5⟩ := hs.cells
      have HJ := Lib.hid (joined_any ⟨#[38]⟩ U xg xc w2 (by decide) (by have := HUF.out.1; omega) (by have := HUF.out.2; omega) n3 n4 n5)
      generalize joinP ⟨#[38]⟩ U = J at *
      have hz2 : ¬ 9223372036854775807 < (⟨#[83]⟩ ++ vi : ByteArray).size + J.size := by
        have h1 := HQZ.out
        rw [HQ.out, ByteArray.size_append] at h1
        omega
      clear hs n5 HWE
      go_wp2_with fail
      refine HJ.out.mono ?_; rintro e w3 ⟨rfl, hw3⟩; rw [← hw3]; clear hw3
      go_wp2_with fail
      rw [← HQ.out]
      refine (HSH.out _).mono ?_; rintro e w4 ⟨rfl, hw4⟩; rw [hw4]; clear hw4
      go_wp2_with fail
      go_ret2
      exact ⟨rfl, HT3.out.old.trans (HO2.out.mono HT3.out.old.size)⟩
/-- Whatever the rounds are. -/
theorem tell_any : ∀ r, TellOK r
  | 0 => fun n S R m S2 R2 va vb la lb w hs1 hs2 hl hl3 ha hb hva hvb hw => tell_fact 0 n S R m S2 R2 va vb la lb w hs1 hs2 hl hl3 ha hb hva hvb (by
      unfold Gs.wins at hw
      rw [Bool.and_eq_false_iff] at hw
      rcases hw with hw | hw
      · exact hw
      · cases hw)
  | k + 1 => fun n S R m S2 R2 va vb la lb w hs1 hs2 hl hl3 ha hb hva hvb hw => by
      cases hs : Gs.same (stOf n S R) la (stOf m S2 R2) lb with
      | false => exact tell_fact (k + 1) n S R m S2 R2 va vb la lb w hs1 hs2 hl hl3 ha hb hva hvb hs
      | true =>
        rw [show ((k + 1 : Nat) : Int) = (k : Int) + 1 from rfl]
        cases hn : noRep (stOf n S R) la (stOf m S2 R2) lb k with
        | some x => exact tell_a k (tell_any k) n S R m S2 R2 va vb la lb x w hs1 hs2 hl hl3 ha hb hva hvb hs hn
        | none =>
          obtain ⟨y, hy⟩ := noRep_some hs hw hn
          exact tell_b k (tell_any k) n S R m S2 R2 va vb la lb y w hs1 hs2 hl hl3 ha hb hva hvb hs hn hy
end Go.Proofs.YtofmagiahmmmgaaGreatDoor
