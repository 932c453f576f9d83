/- Contracts of the program's functions and what they compute: part 27. Conditions: those that each theorem states. -/
import Derived.Test.YtdcnpjekmnlgjaaGreatDoorP56n7
import Derived.Test.YtdcnpjekmnlgjaaGreatDoorP56n22
import Derived.Test.YtdcnpjekmnlgjaaGreatDoorP56n25
import Derived.Test.YtdcnpjekmnlgjaaGreatDoorP56n26
namespace Go.Proofs.YtdcnpjekmnlgjaaGreatDoor
open Go.RowKit
set_option linter.unusedVariables false
set_option maxRecDepth 100000
theorem interp1_any (φ : Fm.T) (F G : Nat → Prop) (w : World) (hb kb n : Nat) (S R : ByteArray) (p bh bf x : Nat) (hB : Base F G w hb kb n S R) (hT : Tree F w φ p) (hx : x < n) (c1 : w.cell? ⟨bh, 0, none⟩ = some (ptrV hb)) (c2 : w.cell? ⟨bf, 0, none⟩ = some (ptrV p)) :
    Calls Tryz.prog 23 #[.int .i64 (x : Int), .pointer (some ⟨bh, 0, none⟩), .pointer (some ⟨bf, 0, none⟩)] w fun en w' => en = .returned (.bool (Fm.holds (stOf n S R) φ (env2 x 0))) ∧ EverP F G kb (stOf n S R) w w' := by
  have hbel : Below w.heap.size w (w.alloc (.cells #[.int .i64 (x : Int)] 3)) := (Below.refl w.heap.size w).alloc (Nat.le_refl _) _
  have hA := heap_alloc_new w (.cells #[.int .i64 (x : Int)] 3)
  have HC := Lib.hid (holds_one φ F G _ hb kb n S R p w.heap.size x (hB.below hbel) (hT.below hbel) hx (by unfold World.cell?; rw [hA]; rfl))
  have HE := Lib.hid (EverP.of_below hB.memo hbel)
  clear hB hT hA hbel
  unfold ptrV at HC c1 c2
  go_enter Tryz.func23, Tryz.ntmps23
  go_wp2_with fail
  refine HC.out.mono ?_; rintro _ w1 ⟨rfl, hev⟩
  have HEND := Lib.hid (HE.out.then (fun b hb => .inl hb) hev)
  clear hev
  go_wp2_with fail
  go_ret
  exact ⟨rfl, HEND.out⟩
theorem interp2_any (φ : Fm.T) (F G : Nat → Prop) (w : World) (hb kb n : Nat) (S R : ByteArray) (p bh bf x y : Nat) (hB : Base F G w hb kb n S R) (hT : Tree F w φ p) (hx : x < n) (hy : y < n) (c1 : w.cell? ⟨bh, 0, none⟩ = some (ptrV hb)) (c2 : w.cell? ⟨bf, 0, none⟩ = some (ptrV p)) :
    Calls Tryz.prog 25 #[.int .i64 (x : Int), .int .i64 (y : Int), .pointer (some ⟨bh, 0, none⟩), .pointer (some ⟨bf, 0, none⟩)] w fun en w' => en = .returned (.bool (Fm.holds (stOf n S R) φ (env2 x y))) ∧ EverP F G kb (stOf n S R) w w' := by
  have hbel : Below w.heap.size w (w.alloc (.cells #[.int .i64 (x : Int), .int .i64 (y : Int)] 3)) := (Below.refl w.heap.size w).alloc (Nat.le_refl _) _
  have hA := heap_alloc_new w (.cells #[.int .i64 (x : Int), .int .i64 (y : Int)] 3)
  have HC := Lib.hid (holds_two φ F G _ hb kb n S R p w.heap.size x y (hB.below hbel) (hT.below hbel) hx hy (by unfold World.cell?; rw [hA]; rfl) (by unfold World.cell?; rw [hA]; rfl))
  have HE := Lib.hid (EverP.of_below hB.memo hbel)
  clear hB hT hA hbel
  unfold ptrV at HC c1 c2
  go_enter Tryz.func25, Tryz.ntmps25
  go_wp2_with fail
  refine HC.out.mono ?_; rintro _ w1 ⟨rfl, hev⟩
  have HEND := Lib.hid (HE.out.then (fun b hb => .inl hb) hev)
  clear hev
  go_wp2_with fail
  go_ret
  exact ⟨rfl, HEND.out⟩
end Go.Proofs.YtdcnpjekmnlgjaaGreatDoor
namespace Go.Proofs.YtdcnpjekmnlgjaaGreatDoor
open Go.RowKit
set_option linter.unusedVariables false
set_option maxRecDepth 100000
/-- What Interpret returns. -/
def intRes (f g : ByteArray) (n : Nat) (S R : ByteArray) : Value :=
  match viewB f g with
  | none => .tuple #[strV 0 ByteArray.empty ByteArray.empty, .bool false]
  | some (φ, ψ) => .tuple #[strV n (bitsOf (fun x => Fm.holds (stOf n S R) φ (env2 x 0)) n) (gridOf (fun x y => Fm.holds (stOf n S R) ψ (env2 x y)) n), .bool true]
theorem intRes_none {f g : ByteArray} {n : Nat} {S R : ByteArray} (h : viewB f g = none) : intRes f g n S R = .tuple #[strV 0 ByteArray.empty ByteArray.empty, .bool false] := by unfold intRes; rw [h]
theorem intRes_some {f g : ByteArray} {n : Nat} {S R : ByteArray} {φ ψ : Fm.T} (h : viewB f g = some (φ, ψ)) : intRes f g n S R = .tuple #[strV n (bitsOf (fun x => Fm.holds (stOf n S R) φ (env2 x 0)) n) (gridOf (fun x y => Fm.holds (stOf n S R) ψ (env2 x y)) n), .bool true] := by unfold intRes; rw [h]
section
variable {w wr w' : World} {n : Int} {S R : ByteArray}
theorem BoxR.ever {F G : Nat → Prop} {kb : Nat} {a : Gs.St} (h : BoxR w wr n S R) (he : EverP F G kb a wr w') (hG : ∀ b, G b → w.heap.size + 2 ≤ b) : BoxR w w' n S R :=
  ⟨(he.heap h.a.cells.2.2.2.2.2.2 (fun e => by have := hG _ e; omega)).trans h.a, (he.heap h.res.cells.2.2.2.2.2.2 (fun e => by have := hG _ e; omega)).trans h.res, h.old.trans (he.off.below h.old.size (fun b e => by have := hG _ e; omega))⟩
end
theorem implInterpret_no (f g : ByteArray) (hf : f.size ≤ 9223372036854775807) (hg : g.size ≤ 9223372036854775807) (n : Int) (S R : ByteArray) (hS : S.size ≤ 9223372036854775807) (hR : R.size ≤ 9223372036854775807) (hv : validB n S R = false) (w : World) :
    Calls Tryz.prog 5 #[strV n S R, .string f, .string g] w fun en w' => en = .returned (.tuple #[strV 0 ByteArray.empty ByteArray.empty, .bool false]) ∧ Below w.heap.size w w' := by
  have HIS : Hid (∀ w, Calls Tryz.prog 20 #[strV n S R] w fun e w' => e = .returned (.bool false) ∧ Below w.heap.size w w') := fun w => by
    rw [← hv]; exact isStructure_any n S R w hS hR
  have HB := Lib.hid (BoxR.first w n S R)
  clear hv
  unfold boxS at HB
  obtain ⟨W, hW⟩ : ∃ W, (w.alloc (.cells #[.int .i64 n, .string S, .string R] 24)).alloc (.cells #[.int .i64 0, .string ⟨#[]⟩, .string ⟨#[]⟩] 24) = W := ⟨_, rfl⟩
  replace HB : Hid (BoxR w W n S R) := by rw [← hW]; exact HB.out
  have HW := Lib.hid hW
  clear hW
  unfold strV at HIS
  unfold strV
  go_enter Tryz.func5, Tryz.ntmps5
  go_upto_region 1 with fail
  rw [HW.out]
  go_wp2_with fail
  refine (viewOf_any f g hf hg _).mono ?_
  rintro en w1 ⟨hb1, hor⟩
  have HB1 := Lib.hid (HB.out.below hb1)
  clear hb1
  rcases hor with ⟨hr, rfl⟩ | ⟨φ, ψ, p, q, hr, rfl, ht, ht2⟩
  · have HB2 : Hid (BoxR w ((w1.alloc (.cells #[.pointer none] 46)).alloc (.cells #[.pointer none] 46)) n S R) := HB1.out.below (((Below.refl w1.heap.size w1).alloc (Nat.le_refl _) _).alloc (by simp) _)
    obtain ⟨d0, d1, d2, g0, g1, g2, hl⟩ := HB2.out.res.cells
    clear hr
    go_wp2_with fail
    refine bodyPost_ret (v := .tuple #[strV 0 ByteArray.empty ByteArray.empty, .bool false]) ?_ rfl ⟨rfl, ?_⟩
    · exact results_str2 rfl rfl HB2.out.res.set3 rfl
    · exact HB2.out.fin _ _ _
  · have HB2 : Hid (BoxR w ((w1.alloc (.cells #[.pointer (some ⟨p, 0, none⟩)] 46)).alloc (.cells #[.pointer (some ⟨q, 0, none⟩)] 46)) n S R) := HB1.out.below (((Below.refl w1.heap.size w1).alloc (Nat.le_refl _) _).alloc (by simp) _)
    obtain ⟨s0, s1, s2, _, _, _, hl⟩ := HB2.out.a.cells
    clear hr ht ht2
    unfold ptrV
    go_wp2_with fail
    refine (HIS.out _).mono ?_; rintro _ w3 ⟨rfl, hb3⟩
    have HB3 := Lib.hid (HB2.out.below hb3)
    clear hb3 s0 s1 s2 hl
    obtain ⟨d0, d1, d2, g0, g1, g2, hl⟩ := HB3.out.res.cells
    go_wp2_with fail
    refine bodyPost_ret (v := .tuple #[strV 0 ByteArray.empty ByteArray.empty, .bool false]) ?_ rfl ⟨rfl, ?_⟩
    · exact results_str2 rfl rfl HB3.out.res.set3 rfl
    · exact HB3.out.fin _ _ _
set_option maxHeartbeats 1000000 in
theorem implInterpret_yes (f g : ByteArray) (hf : f.size ≤ 9223372036854775807) (hg : g.size ≤ 9223372036854775807) (n : Nat) (S R : ByteArray) (hv : validB n S R = true) (w : World) :
    Calls Tryz.prog 5 #[strV n S R, .string f, .string g] w fun en w' => en = .returned (intRes f g n S R) ∧ Below w.heap.size w w' := by
  obtain ⟨h1, h8, hS, hR, _, _⟩ := valid_is hv
  have HIS : Hid (∀ w, Calls Tryz.prog 20 #[strV n S R] w fun e w' => e = .returned (.bool true) ∧ Below w.heap.size w w') := fun w => by
    have := isStructure_any n S R w (by omega) (by rw [hR]; have := Nat.mul_le_mul h8 h8; omega)
    rw [hv] at this
    exact this
  have HNH := Lib.hid (fun F w hF => newHolder_any n S R hv F w hF)
  have HB := Lib.hid (BoxR.first w n S R)
  unfold boxS at HB
  obtain ⟨W, hW⟩ : ∃ W, (w.alloc (.cells #[.int .i64 (n : Int), .string S, .string R] 24)).alloc (.cells #[.int .i64 0, .string ⟨#[]⟩, .string ⟨#[]⟩] 24) = W := ⟨_, rfl⟩
  replace HB : Hid (BoxR w W n S R) := by rw [← hW]; exact HB.out
  have HWZ : Hid (w.heap.size + 2 ≤ W.heap.size) := by rw [← hW]; show _ ≤ _; simp
  have HW := Lib.hid hW
  clear hW hv
  obtain ⟨RES, hres⟩ : ∃ r, intRes f g n S R = r := ⟨_, rfl⟩
  rw [hres]
  unfold strV at HIS HNH
  unfold strV
  go_enter Tryz.func5, Tryz.ntmps5
  go_upto_region 1 with fail
  rw [HW.out]
  go_wp2_with fail
  refine (viewOf_any f g hf hg _).mono ?_
  rintro en w1 ⟨hb1, hor⟩
  have HB1 := Lib.hid (HB.out.below hb1)
  have HWZ1 := Lib.hid (Nat.le_trans HWZ.out hb1.size)
  clear hb1
  rcases hor with ⟨hr, rfl⟩ | ⟨φ, ψ, p, q, hr, rfl, ht, ht2⟩
  · have HB2 : Hid (BoxR w ((w1.alloc (.cells #[.pointer none] 46)).alloc (.cells #[.pointer none] 46)) n S R) := HB1.out.below (((Below.refl w1.heap.size w1).alloc (Nat.le_refl _) _).alloc (by simp) _)
    obtain ⟨d0, d1, d2, g0, g1, g2, hl⟩ := HB2.out.res.cells
    have HV := Lib.hid (hres.symm.trans (intRes_none hr))
    clear hr hres
    go_wp2_with fail
    refine bodyPost_ret (v := .tuple #[strV 0 ByteArray.empty ByteArray.empty, .bool false]) ?_ rfl ⟨by rw [HV.out], ?_⟩
    · exact results_str2 rfl rfl HB2.out.res.set3 rfl
    · exact HB2.out.fin _ _ _
  · have HV := Lib.hid (hres.symm.trans (intRes_some hr))
    have al : Below w1.heap.size w1 ((w1.alloc (.cells #[.pointer (some ⟨p, 0, none⟩)] 46)).alloc (.cells #[.pointer (some ⟨q, 0, none⟩)] 46)) := ((Below.refl w1.heap.size w1).alloc (Nat.le_refl _) _).alloc (by simp) _
    obtain ⟨W2, hW2⟩ : ∃ W2, (w1.alloc (.cells #[.pointer (some ⟨p, 0, none⟩)] 46)).alloc (.cells #[.pointer (some ⟨q, 0, none⟩)] 46) = W2 := ⟨_, rfl⟩
    have HW2 := Lib.hid hW2
    have HP2 : Hid (W2.cell? ⟨w1.heap.size, 0, none⟩ = some (.pointer (some ⟨p, 0, none⟩)) ∧ W2.cell? ⟨w1.heap.size + 1, 0, none⟩ = some (.pointer (some ⟨q, 0, none⟩)) ∧ W2.heap.size = w1.heap.size + 2) := by
      subst hW2
      refine ⟨?_, ?_, by simp⟩
      · have h0 : (w1.alloc (.cells #[.pointer (some ⟨p, 0, none⟩)] 46)).cell? ⟨w1.heap.size, 0, none⟩ = some (.pointer (some ⟨p, 0, none⟩)) := by unfold World.cell?; rw [heap_alloc_new]; rfl
        exact (Below.cell (((Below.refl _ _).alloc (Nat.le_refl _) _)) (by simp)).trans h0
      · have := heap_alloc_new (w1.alloc (.cells #[.pointer (some ⟨p, 0, none⟩)] 46)) (.cells #[.pointer (some ⟨q, 0, none⟩)] 46)
        unfold World.cell?
        simp only [World.size_alloc] at this
        rw [this]; rfl
    rw [hW2] at al
    have HB2 := Lib.hid (HB1.out.below al)
    have HT2 := Lib.hid (ht.below al)
    have HU2 := Lib.hid (ht2.below al)
    clear hr ht ht2 hres al hW2
    unfold ptrV
    go_upto_region 2 with fail
    rw [HW2.out]
    obtain ⟨s0, s1, s2, _, _, _, hl⟩ := HB2.out.a.cells
    go_wp2_with fail
    refine (HIS.out _).mono ?_; rintro _ w3 ⟨rfl, hb3⟩
    have HB3 := Lib.hid (HB2.out.below hb3)
    have HT3 := Lib.hid ((HT2.out.below hb3).mono (F' := fun b => W.heap.size ≤ b) (fun b hb => hb))
    have HU3 := Lib.hid ((HU2.out.below hb3).mono (F' := fun b => W.heap.size ≤ b) (fun b hb => hb))
    have HP3 : Hid (w3.cell? ⟨w1.heap.size, 0, none⟩ = some (.pointer (some ⟨p, 0, none⟩)) ∧ w3.cell? ⟨w1.heap.size + 1, 0, none⟩ = some (.pointer (some ⟨q, 0, none⟩)) ∧ w1.heap.size + 2 ≤ w3.heap.size) :=
      ⟨(hb3.cell (World.block_lt_of_cell? _ _ HP2.out.1)).trans HP2.out.1, (hb3.cell (World.block_lt_of_cell? _ _ HP2.out.2.1)).trans HP2.out.2.1, by rw [← HP2.out.2.2]; exact hb3.size⟩
    clear hb3 s0 s1 s2 hl
    obtain ⟨s0, s1, s2, _, _, _, hl⟩ := HB3.out.a.cells
    go_wp2_with fail
    refine (HNH.out (fun b => W.heap.size ≤ b ∧ b < w3.heap.size) w3 (fun b hb => hb.2)).mono ?_
    rintro _ w5 ⟨hb, kb, rfl, hkb, hbase, hb5⟩
    have hal6 : Below w5.heap.size w5 (w5.alloc (.cells #[.pointer (some ⟨hb, 0, none⟩)] 50)) := (Below.refl _ _).alloc (Nat.le_refl _) _
    have hb6 : Below w3.heap.size w3 (w5.alloc (.cells #[.pointer (some ⟨hb, 0, none⟩)] 50)) := hb5.trans (hal6.mono hb5.size)
    have HB6 := Lib.hid (HB3.out.below hb6)
    have HT6 := Lib.hid ((HT3.out.tight.below hb6).mono (F' := fun b => (W.heap.size ≤ b ∧ b < w3.heap.size) ∨ b = hb) (fun b h => .inl h))
    have HU6 := Lib.hid ((HU3.out.tight.below hb6).mono (F' := fun b => (W.heap.size ≤ b ∧ b < w3.heap.size) ∨ b = hb) (fun b h => .inl h))
    have HS6 := Lib.hid (hbase.below hal6)
    have HP6 : Hid ((w5.alloc (.cells #[.pointer (some ⟨hb, 0, none⟩)] 50)).cell? ⟨w1.heap.size, 0, none⟩ = some (ptrV p) ∧ (w5.alloc (.cells #[.pointer (some ⟨hb, 0, none⟩)] 50)).cell? ⟨w1.heap.size + 1, 0, none⟩ = some (ptrV q) ∧ (w5.alloc (.cells #[.pointer (some ⟨hb, 0, none⟩)] 50)).cell? ⟨w5.heap.size, 0, none⟩ = some (ptrV hb)) :=
      ⟨(hb6.cell (World.block_lt_of_cell? _ _ HP3.out.1)).trans HP3.out.1, (hb6.cell (World.block_lt_of_cell? _ _ HP3.out.2.1)).trans HP3.out.2.1, by unfold World.cell?; rw [heap_alloc_new]; rfl⟩
    have HKB : Hid (w.heap.size + 2 ≤ kb ∧ w1.heap.size + 2 ≤ kb ∧ kb < w5.heap.size) := ⟨by have := HB3.out.old.size; have := HB3.out.res.cells.2.2.2.2.2.2; omega, by have := HP3.out.2.2; omega, hbase.memo.lt kb rfl⟩
    clear s0 s1 s2 hl hbase hb5 hkb hal6 hb6
    have HM := Lib.hid (fun k1 k2 hk1 hk2 hs hr => makeStructure_ever (F := fun b => (W.heap.size ≤ b ∧ b < w3.heap.size) ∨ b = hb) (G := fun b => b = kb) (kb := kb) (a := stOf n S R) n h8 k1 k2 #[.pointer (some ⟨w5.heap.size, 0, none⟩), .pointer (some ⟨w1.heap.size, 0, none⟩)] #[.pointer (some ⟨w5.heap.size, 0, none⟩), .pointer (some ⟨w1.heap.size + 1, 0, none⟩)] (fun x => Fm.holds (stOf n S R) φ (env2 x 0)) (fun x y => Fm.holds (stOf n S R) ψ (env2 x y)) (w5.alloc (.cells #[.pointer (some ⟨hb, 0, none⟩)] 50)) hk1 hk2 HS6.out.memo hs hr)
    obtain ⟨s0, s1, s2, _, _, _, hl⟩ := HB6.out.a.cells
    unfold ptrV
    go_wp2_with fail
    refine (HM.out _ _ (fun _ _ => by kernel_rfl) (fun _ _ => by kernel_rfl) (fun x W' G' hx hev hm => interp1_any φ _ G' W' hb kb n S R p w5.heap.size w1.heap.size x (HS6.out.ever hev hm) (HT6.out.ever HS6.out.memo hev) hx (hev.cell HP6.out.2.2 (fun e => ?_)) (hev.cell HP6.out.1 (fun e => ?_))) (fun x y W' G' hx hy hev hm => interp2_any ψ _ G' W' hb kb n S R q w5.heap.size (w1.heap.size + 1) x y (HS6.out.ever hev hm) (HU6.out.ever HS6.out.memo hev) hx hy (hev.cell HP6.out.2.2 (fun e => ?_)) (hev.cell HP6.out.2.1 (fun e => ?_)))).mono ?_
    · have e : w5.heap.size = kb := e
      have := HKB.out.2.2; omega
    · have e : w1.heap.size = kb := e
      have := HKB.out.2.1; omega
    · have e : w5.heap.size = kb := e
      have := HKB.out.2.2; omega
    · have e : w1.heap.size + 1 = kb := e
      have := HKB.out.2.1; omega
    · rintro e w7 ⟨rfl, hev⟩
      have HB7 := Lib.hid (HB6.out.ever hev (fun b e => by have e : b = kb := e; have := HKB.out.1; omega))
      clear hev s0 s1 s2 hl
      obtain ⟨d0, d1, d2, g0, g1, g2, hl⟩ := HB7.out.res.cells
      unfold strV
      go_wp2_with fail
      refine bodyPost_ret (v := .tuple #[strV n (bitsOf (fun x => Fm.holds (stOf n S R) φ (env2 x 0)) n) (gridOf (fun x y => Fm.holds (stOf n S R) ψ (env2 x y)) n), .bool true]) ?_ rfl ⟨by rw [HV.out], ?_⟩
      · exact results_str2 rfl rfl HB7.out.res.set3 rfl
      · exact HB7.out.fin _ _ _
end Go.Proofs.YtdcnpjekmnlgjaaGreatDoor
