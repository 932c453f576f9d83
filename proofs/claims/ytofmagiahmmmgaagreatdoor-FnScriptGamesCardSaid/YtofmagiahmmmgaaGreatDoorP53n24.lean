/- Contracts of the program's functions and what they compute: part 24. Conditions: those that each theorem states. -/
import Derived.Test.YtofmagiahmmmgaaGreatDoorP53n5
import Derived.Test.YtofmagiahmmmgaaGreatDoorP53n23
import Derived.Test.YtofmagiahmmmgaaGreatDoorP53n4
import Derived.Test.YtofmagiahmmmgaaGreatDoorP53n17
import Derived.Test.YtofmagiahmmmgaaGreatDoorP53n18
import Derived.Test.YtofmagiahmmmgaaGreatDoorP53n20
import Derived.Deep.RegionLaw
import Derived.Deep.RegionLawGrows
namespace Go.Proofs.YtofmagiahmmmgaaGreatDoor.Gs
set_option linter.unusedVariables false
theorem nodup_le {α : Type} [DecidableEq α] : ∀ {L M : List α}, L.Nodup → (∀ x ∈ L, x ∈ M) → L.length ≤ M.length
  | [], M, _, _ => Nat.zero_le _
  | x :: L, M, hd, hs => by
    have h := List.nodup_cons.1 hd
    have hx := hs x (by simp)
    have ih := nodup_le (L := L) (M := M.erase x) h.2 (fun y hy => (List.mem_erase_of_ne (by rintro rfl; exact h.1 hy)).2 (hs y (by simp [hy])))
    rw [List.length_erase_of_mem hx] at ih
    have : 0 < M.length := List.length_pos_of_mem hx
    simp only [List.length_cons]; omega
theorem nodup_map {α β : Type} {f : α → β} : ∀ {L : List α}, L.Nodup → (∀ x ∈ L, ∀ y ∈ L, f x = f y → x = y) → (L.map f).Nodup
  | [], _, _ => List.nodup_nil
  | x :: L, hd, hi => by
    have h := List.nodup_cons.1 hd
    rw [List.map_cons, List.nodup_cons]
    refine ⟨fun hm => ?_, nodup_map h.2 (fun a ha b hb => hi a (by simp [ha]) b (by simp [hb]))⟩
    obtain ⟨y, hy, e⟩ := List.mem_map.1 hm
    have := hi y (by simp [hy]) x (by simp) e
    subst this
    exact h.1 hy
end Go.Proofs.YtofmagiahmmmgaaGreatDoor.Gs

namespace Go.Proofs.YtofmagiahmmmgaaGreatDoor
set_option linter.unusedVariables false
namespace Col
theorem strict_nodup {l : List (List Nat)} (h : Strict l) : l.Nodup := by
  refine List.Pairwise.imp (fun {x y} hxy e => ?_) h
  rw [e, cmp_self] at hxy
  omega
/-- Those that are less. -/
def less (ds : List (List Nat)) (d : List Nat) : List (List Nat) := (srt ds).filter fun e => decide (cmp e d < 0)
end Col
end Go.Proofs.YtofmagiahmmmgaaGreatDoor

namespace Go.Proofs.YtofmagiahmmmgaaGreatDoor
open Go.RowKit
set_option linter.unusedVariables false
set_option maxRecDepth 100000
/-- Whether a round gives as many elements of each colour in both. -/
def evB (a b : Gs.St) (r : Nat) : Bool := decide (Col.sortL ((Col.after [a, b] r).take a.n) = Col.sortL ((Col.after [a, b] r).drop a.n))
/-- Whether the first rounds do. -/
def evTo (a b : Gs.St) : Nat → Bool
  | 0 => true
  | r + 1 => evTo a b r && evB a b r
/-- Whether two structures have the same colours. -/
def scB (a b : Gs.St) : Bool := evTo a b (a.n + b.n + 1)
theorem evTo_no {a b : Gs.St} {r : Nat} (h : evTo a b r = false) : ∀ {y}, r ≤ y → evTo a b y = false := by
  intro y hy
  induction hy with
  | refl => exact h
  | step _ ih => unfold evTo; rw [ih]; rfl
theorem evTo_all {a b : Gs.St} : ∀ {r : Nat}, evTo a b r = true → ∀ k, k < r → evB a b k = true
  | 0, _, k, h => by omega
  | r + 1, h, k, hk => by
    unfold evTo at h
    rw [Bool.and_eq_true] at h
    by_cases e : k = r
    · rw [e]; exact h.2
    · exact evTo_all h.1 k (by omega)
theorem two_at (w : World) (n : Nat) (S R : ByteArray) (m : Nat) (T U : ByteArray) (Q : TypeId) : SsAt (w.alloc (.cells #[.int .i64 (n : Int), .string S, .string R, .int .i64 (m : Int), .string T, .string U] Q)) w.heap.size [(n, S, R), (m, T, U)] := by
  refine ⟨by simp, fun i hi => ?_⟩
  have hi2 : i < 2 := hi
  rcases (by omega : i = 0 ∨ i = 1) with rfl | rfl
  · refine ⟨?_, ?_, ?_⟩ <;> (rw [World.cell?_alloc_new]; rfl)
  · refine ⟨?_, ?_, ?_⟩ <;> (rw [World.cell?_alloc_new]; rfl)
theorem after_two (n : Nat) (S R : ByteArray) (m : Nat) (T U : ByteArray) (r : Nat) (W : World) (b : Nat) (hb : SsAt W b [(n, S, R), (m, T, U)]) (hv : validB n S R = true) (hu : validB m T U = true) (hr : r ≤ 1000) :
    Calls Tryz.prog 60 #[.slice (some ⟨b, 0, none⟩) 2 2, .int .i64 (r : Int)] W (NewNums W (Col.after [stOf n S R, stOf m T U] r)) := by
  obtain ⟨n1, n8, hS, hR, _, _⟩ := valid_is hv
  obtain ⟨m1, m8, hT, hU, _, _⟩ := valid_is hu
  exact coloursAfter_any [(n, S, R), (m, T, U)] b 2 r _ (by simp) (by simp) (by simp) (by decide) hr (by
    intro p hp
    simp only [List.mem_cons, List.not_mem_nil, or_false] at hp
    rcases hp with rfl | rfl
    · exact ⟨n1, n8, hS, hR⟩
    · exact ⟨m1, m8, hT, hU⟩) hb
theorem OwnN.lower {B B' : Nat} {w : World} {v : Value} {L : List Nat} (h : OwnN B' w v L) (hB : B ≤ B') : OwnN B w v L := by
  refine ⟨⟨h.own.1, ?_⟩, Nat.le_trans hB h.low⟩
  rcases h.own.2 with h1 | ⟨g, cap, cur, h1, h2, h3⟩
  · exact .inl h1
  · exact .inr ⟨g, cap, cur, h1, Nat.le_trans hB h2, h3⟩
theorem bel_g1 (W : World) (o : Obj) : Below W.heap.size W (W.alloc o).drew := ((Below.refl _ _).alloc (Nat.le_refl _) o).drew
theorem bel_g2 (W : World) (o o' : Obj) : Below W.heap.size W ((W.alloc o).alloc o').drew := (((Below.refl _ _).alloc (Nat.le_refl _) o).alloc (by simp) o').drew
theorem bel_gx {a b : World} (h : Below a.heap.size a b) (o : Obj) : Below a.heap.size a (b.alloc o) := h.alloc h.size o
theorem bel_gf {a b c : World} (h : Below a.heap.size a b) (k : Below b.heap.size b c) : Below a.heap.size a c := h.trans (k.mono h.size)
/-- Numbers appended to an empty slice lie in a block of their own. -/
theorem step_grow9 {ops : Array Oper} {o : Oper} {a : Act} {K : Act → World → Prop} {Q : Exit → Act → World → Prop} {E : Prop} {w : World} {u : Value} {M : List Nat}
    (hM : NumsAt w u M) (h0 : 0 < M.length) (hL : M.length ≤ 2000000) (b : Nat) (hgd : o.guard = none) (s x : Operand)
    (ho : o.op = .call { callee := .builtin .append, args := #[s, x], argTypes := #[33, 33] })
    (hs : a.eval s = .slice (some ⟨b, 0, none⟩) 0 0) (hx : a.eval x = u)
    (h : ∀ v' w', OwnN w.heap.size w' v' M → Below w.heap.size w w' → K (a.put o.dst v') w') :
    if Region.wanted o (yielded ops a.tmps) = true then Oper.wp Tryz.prog o a w K Q else E := by
  obtain ⟨i, hi, hz, h1, h2⟩ := info_parts natInfo3
  rcases hM with ⟨_, rfl⟩ | ⟨g, off, cap, rfl, m1, m2, mg, mc⟩
  · simp at h0
  · refine step_append_grows hgd s x 33 ho 3 i (.int .i64 0) 1 8 Tryz.underlying33 hi hz h1 h2 rfl (by decide) (some ⟨b, 0, none⟩) 0 0 [] hs (by simp) (by simp) (by simp) ⟨g, off, none⟩ M.length cap (M.map fun n : Nat => Value.int .i64 (n : Int)) hx (by simp) ?_ ?_ (by omega) (by unfold maxLen; omega) (by omega) ?_
    · intro j u hj
      simp only [List.getElem?_map, Option.map_eq_some_iff] at hj
      obtain ⟨y, hy, rfl⟩ := hj
      have hjl := (List.getElem?_eq_some_iff.1 hy).1
      have h3 := mc j hjl
      have h4 : M.getD j 0 = y := by rw [List.getD_eq_getElem?_getD, hy]; rfl
      rw [h4] at h3
      have hadd : (⟨g, off, none⟩ : Addr).add j = ⟨g, off + j, none⟩ := by unfold Addr.add; split <;> simp_all
      rw [hadd]
      exact h3
    · intro u hu
      obtain ⟨y, _, rfl⟩ := List.mem_map.1 hu
      rfl
    · intro v' w' hr hg
      refine h v' w' ⟨by simpa using hr, hg.size⟩ ⟨hg.os, hg.tape, hg.output, hg.size, fun k hk => hg.block k hk (by simp)⟩
theorem slice_pre9 (ht : (Tryz.prog).underlying 33 = some (.slice ((Tryz.prog).elem 33))) (g M cap n : Nat) (W : World) (h1 : 1 ≤ cap) (h2 : n ≤ cap) : (Instr.sliceAt 33 (.slice (some ⟨g, 0, none⟩) M cap) none (some (.int .i64 (n : Int))) none).run Tryz.prog W = .ok (.slice (some ⟨g, 0, none⟩) n cap) W := by
  rw [run_sliceAt_slice _ _ _ _ _ _ ht, run_slice_h _ _ _ _ _ ht .i64 _ (by omega) (by omega)]
  have h4 : ¬ cap = 0 := by omega
  simp [Result.andThen, sliced, h4, go_sem, Addr.add]
theorem slice_suf9 (ht : (Tryz.prog).underlying 33 = some (.slice ((Tryz.prog).elem 33))) (g M cap n : Nat) (W : World) (h1 : n ≤ M) (h2 : M ≤ cap) (h3 : n < cap) : (Instr.sliceAt 33 (.slice (some ⟨g, 0, none⟩) M cap) (some (.int .i64 (n : Int))) none none).run Tryz.prog W = .ok (.slice (some ⟨g, n, none⟩) (M - n) (cap - n)) W := by
  rw [run_sliceAt_slice _ _ _ _ _ _ ht, run_slice_l _ _ _ _ _ ht .i64 _ (by omega) (by omega)]
  have h4 : ¬ cap = n := by omega
  simp [Result.andThen, sliced, h4, go_sem, Addr.add]
  exact fun h => h.symm
/-- Two slices of the call's own, and the boxes. -/
structure Ap (w : World) (n : Nat) (S R : ByteArray) (m : Nat) (T U : ByteArray) (v u : Value) (L M : List Nat) (wr : World) : Prop where
  bx : Bx2 w wr n S R m T U
  ov : OwnN (w.heap.size + 2) wr v L
  ou : OwnN (w.heap.size + 2) wr u M
  ne : ∀ k, v.ownBlock = some k → u.ownBlock ≠ some k
theorem below_dn (B : Nat) (w : World) (q : Nat) : Below B w (w.drewN q) := ⟨rfl, rfl, rfl, Nat.le_refl _, fun _ _ => rfl⟩
theorem Bx2.grown9 {w wr w' : World} {n m : Int} {S R S2 R2 : ByteArray} {row : Option Nat} (h : Bx2 w wr n S R m S2 R2) (hg : wr.grownBy w' row) (hr : ∀ k, row = some k → w.heap.size + 2 ≤ k) : Bx2 w w' n S R m S2 R2 :=
  ⟨(hg.block _ h.a.cells.2.2.2.2.2.2 (fun e => by have := hr _ e.symm; omega)).trans h.a, (hg.block _ h.b.cells.2.2.2.2.2.2 (fun e => by have := hr _ e.symm; omega)).trans h.b, h.old.grown hg h.old.size (fun k hk => by have := hr k hk; omega)⟩
set_option maxHeartbeats 8000000 in
theorem ColourRound_any (n : Nat) (S R : ByteArray) (m : Nat) (T U : ByteArray) (hv : validB n S R = true) (hu : validB m T U = true) (w : World) :
    Calls Tryz.prog 30 #[strV n S R, strV m T U] w fun e w' => ∃ z : Int, e = .returned (.int .i64 z) ∧ (decide (z = -1)) = scB (stOf n S R) (stOf m T U) ∧ Below w.heap.size w w' := by
  obtain ⟨h1, h8, hS, hR, _, _⟩ := valid_is hv
  obtain ⟨m1, m8, hT, hU, _, _⟩ := valid_is hu
  have hnn : n * n ≤ 64 := Nat.mul_le_mul h8 h8
  have hmm : m * m ≤ 64 := Nat.mul_le_mul m8 m8
  have I1 := Lib.hid (fun w => isStructure_any n S R w (by omega) (by omega))
  have I2 := Lib.hid (fun w => isStructure_any m T U w (by omega) (by omega))
  rw [hv] at I1; rw [hu] at I2
  have HCA := Lib.hid (fun r W b hb hr => after_two n S R m T U r W b hb hv hu hr)
  have HLEN : Hid (∀ r, (Col.after [stOf n S R, stOf m T U] r).length = n + m) := fun r => by rw [Col.after_len]; show n + (m + 0) = _; omega
  have HEV : Hid (∀ r, evB (stOf n S R) (stOf m T U) r = decide (Col.sortL ((Col.after [stOf n S R, stOf m T U] r).take n) = Col.sortL ((Col.after [stOf n S R, stOf m T U] r).drop n))) := fun r => rfl
  have HTO : Hid (∀ r, evTo (stOf n S R) (stOf m T U) (r + 1) = (evTo (stOf n S R) (stOf m T U) r && evB (stOf n S R) (stOf m T U) r)) := fun r => rfl
  have HNO : Hid (∀ r, r ≤ n + m + 1 → evTo (stOf n S R) (stOf m T U) r = false → scB (stOf n S R) (stOf m T U) = false) := fun r hr h => evTo_no h hr
  have HSC : Hid (scB (stOf n S R) (stOf m T U) = evTo (stOf n S R) (stOf m T U) (n + m + 1)) := rfl
  have HT0 : Hid (evTo (stOf n S R) (stOf m T U) 0 = true) := rfl
  have HBX := Lib.hid (Bx2.new w n S R m T U)
  unfold boxS at HBX
  obtain ⟨W, hW⟩ : ∃ W, (w.alloc (.cells #[.int .i64 (n : Int), .string S, .string R] 24)).alloc (.cells #[.int .i64 (m : Int), .string T, .string U] 24) = W := ⟨_, rfl⟩
  rw [hW] at HBX
  have HW := Lib.hid hW
  clear hW hS hR hT hU hnn hmm hv hu
  generalize scB (stOf n S R) (stOf m T U) = sc at *
  generalize evTo (stOf n S R) (stOf m T U) = et at *
  generalize evB (stOf n S R) (stOf m T U) = ev at *
  generalize Col.after [stOf n S R, stOf m T U] = CA at *
  have hnmw : IntKind.i64.wrap ((n : Int) + (m : Int)) = (n : Int) + (m : Int) := IntWalk.i64_in _ (by omega)
  unfold strV at I1 I2
  unfold strV
  go_enter Tryz.func30, Tryz.ntmps30
  go_upto_region 1 with fail
  rw [HW.out]
  obtain ⟨s0, s1, s2, _, _, _, hl⟩ := HBX.out.a.cells
  go_wp2_with fail
  refine (I1.out _).mono ?_; rintro e w1 ⟨rfl, hb⟩
  have HX1 := Lib.hid (HBX.out.below hb)
  clear hb s0 s1 s2 hl
  obtain ⟨t0, t1, t2, _, _, _, hl'⟩ := HX1.out.b.cells
  go_wp2_with fail
  refine (I2.out _).mono ?_; rintro e w2 ⟨rfl, hb⟩
  have HX2 := Lib.hid (HX1.out.below hb)
  clear hb t0 t1 t2 hl' HX1
  go_wp2_with fail
  go_loopw [5, 6, 7, 8] (fun q _ _ _ wr => ∃ r : Nat, r ≤ n + m + 1 ∧ q = .int .i64 (r : Int) ∧ Hid (et r = true) ∧ Hid (Bx2 w wr n S R m T U)) (fun q _ _ _ _ => n + m + 1 - (intOf q).toNat)
  case atStart => exact ⟨0, by omega, rfl, HT0.out, HX2.out⟩
  case round =>
    clear HX2
    obtain ⟨r, hr, rfl, HET, HP⟩ := hrel
    obtain ⟨s0, s1, s2, _, _, _, hl⟩ := HP.out.a.cells
    obtain ⟨t0, t1, t2, _, _, _, hl'⟩ := HP.out.b.cells
    by_cases hlt : r ≤ n + m
    · have hrI : (r : Int) ≤ (n : Int) + (m : Int) := by omega
      have hrB : decide ((r : Int) ≤ (n : Int) + (m : Int)) = true := decide_eq_true hrI
      go_wp2_with fail
      refine (HCA.out r _ _ (two_at wr n S R m T U _) (by omega)).mono ?_; rintro e w4 ⟨v0, rfl, ho, hb⟩
      have hb4 : Below wr.heap.size wr w4 := ((Below.refl wr.heap.size wr).alloc (Nat.le_refl _) _).trans (hb.mono (by simp))
      have HP4 := Lib.hid (HP.out.below hb4)
      have hlen := HLEN.out r
      have HEVR := Lib.hid (HEV.out r)
      have HTOR := Lib.hid (HTO.out r)
      obtain ⟨C, hC⟩ : ∃ C, CA r = C := ⟨_, rfl⟩
      rw [hC] at ho hlen HEVR
      have HC := Lib.hid (ho.mono (show w.heap.size + 2 ≤ _ by simp; omega))
      clear hb ho hb4 hC s0 s1 s2 hl t0 t1 t2 hl' HP
      obtain ⟨s0, s1, s2, _, _, _, hl⟩ := HP4.out.a.cells
      obtain ⟨t0, t1, t2, _, _, _, hl'⟩ := HP4.out.b.cells
      obtain ⟨g, cap, rfl, hg1, hg2, hc1, hc2, hc⟩ := HC.out.cells
      have HNT : Hid (NumsAt w4 (.slice (some ⟨g, 0, none⟩) n cap) (C.take n)) := HC.out.nums.take n (by omega) (by omega)
      have HNS : Hid (NumsAt w4 (.slice (some ⟨g, n, none⟩) m (cap - n)) (C.drop n)) := by
        have h := nums_mid (M := C.length) (bg := n) (n := m) HC.out.nums rfl (by omega) (by omega)
        rw [List.take_of_length_le (by rw [List.length_drop]; omega)] at h
        exact h
      rw [hlen] at hc1 ⊢
      have hsl1 : ∀ W, (Instr.sliceAt 33 (.slice (some ⟨g, 0, none⟩) (n + m) cap) none (some (.int .i64 (n : Int))) none).run Tryz.prog W = .ok (.slice (some ⟨g, 0, none⟩) n cap) W := fun W => slice_pre9 Tryz.underlying33 g (n + m) cap n W (by omega) (by omega)
      have hsl2 : ∀ W, (Instr.sliceAt 33 (.slice (some ⟨g, 0, none⟩) (n + m) cap) (some (.int .i64 (n : Int))) none none).run Tryz.prog W = .ok (.slice (some ⟨g, n, none⟩) m (cap - n)) W := fun W => by
        have h := slice_suf9 Tryz.underlying33 g (n + m) cap n W (by omega) (by omega) (by omega)
        rw [Nat.add_sub_cancel_left] at h
        exact h
      have HL1 : Hid (0 < (C.take n).length ∧ (C.take n).length ≤ 2000000) := by show _ ∧ _; rw [List.length_take]; omega
      have HL2 : Hid (0 < (C.drop n).length ∧ (C.drop n).length ≤ 2000000) := by show _ ∧ _; rw [List.length_drop]; omega
      have hwl : w.heap.size + 2 ≤ w4.heap.size := by omega
      clear hc hg1 hg2 HC
      unfold maxLen at hc2
      go_upto_region 7 with fail
      go_cut [7, 8] (fun p q wx => ∃ v u : Value, p = v ∧ q = u ∧ Hid (Ap w n S R m T U v u (C.take n) (C.drop n) wx))
      case first =>
        go_region_law (first
          | (refine step_grow9 (HNT.out.below (by first | exact HB6.out | exact bel_gx HB6.out _ | exact bel_g1 _ _ | exact bel_g2 _ _ _)) HL1.out.1 HL1.out.2 _ rfl (.tmp 31) (.tmp 35) rfl rfl rfl ?_; intro v1 w5 ho hb; (first | (have HB65 : Hid (Below w6.heap.size w6 w5) := hb) | (have HB65 : Hid (Below w6.heap.size w6 w5) := bel_gf (bel_gx (Below.refl _ _) _) hb) | skip); (first | (have HB5 : Hid (Below w4.heap.size w4 w5) := bel_gf HB6.out HB65.out) | (have HB5 : Hid (Below w4.heap.size w4 w5) := bel_gf (bel_g1 _ _) hb) | (have HB5 : Hid (Below w4.heap.size w4 w5) := bel_gf (bel_g2 _ _ _) hb)); (first | (have HO1 : Hid (OwnN w6.heap.size w5 v1 (C.take n)) := ho.lower (by simp)) | (have HO1 : Hid (OwnN w4.heap.size w5 v1 (C.take n)) := ho.lower (by simp <;> omega))); clear s0 s1 s2 hl t0 t1 t2 hl'; obtain ⟨s0, s1, s2, _, _, _, hl⟩ := (HP4.out.below HB5.out).a.cells; obtain ⟨t0, t1, t2, _, _, _, hl'⟩ := (HP4.out.below HB5.out).b.cells; clear ho hb)
          | (refine step_grow9 (HNS.out.below (by first | exact HB5.out | exact bel_gx HB5.out _ | exact bel_g1 _ _ | exact bel_g2 _ _ _)) HL2.out.1 HL2.out.2 _ rfl (.tmp 37) (.tmp 41) rfl rfl rfl ?_; intro v2 w6 ho hb; (first | (have HB56 : Hid (Below w5.heap.size w5 w6) := hb) | (have HB56 : Hid (Below w5.heap.size w5 w6) := bel_gf (bel_gx (Below.refl _ _) _) hb) | skip); (first | (have HB6 : Hid (Below w4.heap.size w4 w6) := bel_gf HB5.out HB56.out) | (have HB6 : Hid (Below w4.heap.size w4 w6) := bel_gf (bel_g1 _ _) hb) | (have HB6 : Hid (Below w4.heap.size w4 w6) := bel_gf (bel_g2 _ _ _) hb)); (first | (have HO2 : Hid (OwnN w5.heap.size w6 v2 (C.drop n)) := ho.lower (by simp)) | (have HO2 : Hid (OwnN w4.heap.size w6 v2 (C.drop n)) := ho.lower (by simp <;> omega))); clear s0 s1 s2 hl t0 t1 t2 hl'; obtain ⟨s0, s1, s2, _, _, _, hl⟩ := (HP4.out.below HB6.out).a.cells; obtain ⟨t0, t1, t2, _, _, _, hl'⟩ := (HP4.out.below HB6.out).b.cells; clear ho hb))
        all_goals
          go_wp2_with fail
          go_meet
          first
          | exact ⟨_, _, rfl, rfl, HP4.out.below HB6.out, (HO1.out.below HB56.out).lower hwl, HO2.out.lower (Nat.le_trans hwl HB5.out.size), fun k hk e => by have h1 := (HO1.out.own.lt k hk).2; have h2 := (HO2.out.own.lt k e).1; omega⟩
          | exact ⟨_, _, rfl, rfl, HP4.out.below HB5.out, HO1.out.lower (Nat.le_trans hwl HB6.out.size), (HO2.out.below HB65.out).lower hwl, fun k hk e => by have h1 := (HO1.out.own.lt k hk).1; have h2 := (HO2.out.own.lt k e).2; omega⟩
      case rest =>
        obtain ⟨_, _, rfl, rfl, HA⟩ := hcut
        clear HP4 HNT HNS hsl1 hsl2 s0 s1 s2 hl t0 t1 t2 hl'
        have HS1 := Lib.hid (sSort_any (w.heap.size + 2) u7 (C.take n) wc HA.out.ov (by have := HL1.out.2; rw [List.length_take]; omega))
        go_wp2_with fail
        refine HS1.out.mono ?_; rintro e w5 ⟨rfl, hn1, hg1⟩
        have HA5 : Hid (Bx2 w w5 n S R m T U ∧ NumsAt w5 u7 (Col.sortL (C.take n)) ∧ OwnN (w.heap.size + 2) w5 u8 (C.drop n)) :=
          ⟨HA.out.bx.grown9 hg1 (fun k hk => (HA.out.ov.own.lt k hk).1), hn1, HA.out.ou.kept (fun k hk hl => hg1.block k hl (fun e => HA.out.ne k e.symm hk)) hg1.size⟩
        have HS2 := Lib.hid (sSort_any (w.heap.size + 2) u8 (C.drop n) w5 HA5.out.2.2 (by rw [List.length_drop]; omega))
        have HNE := Lib.hid HA.out.ne
        clear hn1 hg1 HA HS1
        go_wp2_with fail
        refine HS2.out.mono ?_; rintro e w6 ⟨rfl, hn2, hg2⟩
        have HA6 : Hid (Bx2 w w6 n S R m T U ∧ NumsAt w6 u7 (Col.sortL (C.take n)) ∧ NumsAt w6 u8 (Col.sortL (C.drop n))) :=
          ⟨HA5.out.1.grown9 hg2 (fun k hk => (HA5.out.2.2.own.lt k hk).1), HA5.out.2.1.kept (fun k hk hl => hg2.block k hl (fun e => HNE.out k hk e.symm)) hg2.size, hn2⟩
        have HSE := Lib.hid (sEqual_any u7 u8 (Col.sortL (C.take n)) (Col.sortL (C.drop n)) w6 HA6.out.2.1 HA6.out.2.2)
        clear hn2 hg2 HA5 HS2 HNE HL1 HL2
        by_cases heq : Col.sortL (C.take n) = Col.sortL (C.drop n)
        · have HD : Hid (et (r + 1) = true) := by show _ = _; rw [HTOR.out, HET.out, HEVR.out, decide_eq_true heq]; rfl
          rw [decide_eq_true heq] at HSE
          clear heq HEVR HTOR
          go_wp2_with fail
          refine HSE.out.mono ?_; rintro e w7 ⟨rfl, qd, hw7⟩
          have HB7 : Hid (Bx2 w w7 n S R m T U) := by rw [hw7]; exact HA6.out.1.below (below_dn _ _ _)
          clear hw7 HA6 HSE
          go_wp2_with fail
          go_roundw
          case rel => exact ⟨r + 1, by omega, by go_num, HD.out, HB7.out⟩
          case measure => simp [intOf]; omega
        · have HD : Hid (sc = false) := HNO.out (r + 1) (by omega) (by rw [HTOR.out, HEVR.out, decide_eq_false heq, Bool.and_false])
          rw [decide_eq_false heq] at HSE
          clear heq HEVR HTOR
          go_wp2_with fail
          refine HSE.out.mono ?_; rintro e w7 ⟨rfl, qd, hw7⟩
          have HB7 : Hid (Bx2 w w7 n S R m T U) := by rw [hw7]; exact HA6.out.1.below (below_dn _ _ _)
          clear hw7 HA6 HSE
          go_wp2_with fail
          go_ret
          exact ⟨(r : Int), rfl, by rw [HD.out]; exact decide_eq_false (by omega), HB7.out.old⟩
    · obtain rfl : r = n + m + 1 := by omega
      have hrI : ¬ ((n + m + 1 : Nat) : Int) ≤ (n : Int) + (m : Int) := by omega
      have hrB : decide (((n + m + 1 : Nat) : Int) ≤ (n : Int) + (m : Int)) = false := decide_eq_false hrI
      go_wp2_with fail
      go_ret
      exact ⟨-1, rfl, by rw [HSC.out, HET.out]; rfl, HP.out.old⟩
theorem SameColours_any (n : Nat) (S R : ByteArray) (m : Nat) (T U : ByteArray) (hv : validB n S R = true) (hu : validB m T U = true) (w : World) :
    Calls Tryz.prog 11 #[strV n S R, strV m T U] w fun e w' => e = .returned (.bool (scB (stOf n S R) (stOf m T U))) ∧ Below w.heap.size w w' := by
  have HC := Lib.hid (fun w => ColourRound_any n S R m T U hv hu w)
  have HBX := Lib.hid (Bx2.new w n S R m T U)
  unfold boxS at HBX
  obtain ⟨W, hW⟩ : ∃ W, (w.alloc (.cells #[.int .i64 (n : Int), .string S, .string R] 24)).alloc (.cells #[.int .i64 (m : Int), .string T, .string U] 24) = W := ⟨_, rfl⟩
  rw [hW] at HBX
  have HW := Lib.hid hW
  obtain ⟨s0, s1, s2, _, _, _, hl⟩ := HBX.out.a.cells
  obtain ⟨t0, t1, t2, _, _, _, hl'⟩ := HBX.out.b.cells
  clear hW hv hu
  generalize scB (stOf n S R) (stOf m T U) = sc at *
  unfold strV at HC
  unfold strV
  go_enter Tryz.func11, Tryz.ntmps11
  go_upto_region 1 with fail
  rw [HW.out]
  go_wp2_with fail
  refine (HC.out _).mono ?_; rintro e w1 ⟨z, rfl, hz, hb⟩
  have HB1 := Lib.hid (HBX.out.old.trans (hb.mono HBX.out.old.size))
  have HZ : Hid ((z == -1) = sc) := by show _ = _; rw [← hz]; by_cases h : z = -1 <;> simp [h]
  clear hz hb
  go_wp2_with fail
  go_ret
  exact ⟨ret_bool (by rw [← HZ.out]), HB1.out⟩
end Go.Proofs.YtofmagiahmmmgaaGreatDoor
