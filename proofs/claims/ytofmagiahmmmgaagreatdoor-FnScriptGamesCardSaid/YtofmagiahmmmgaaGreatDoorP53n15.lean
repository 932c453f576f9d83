/- Contracts of the program's functions and what they compute: part 15. Conditions: those that each theorem states. -/
import Derived.Test.YtofmagiahmmmgaaGreatDoorP53n4
import Derived.Test.YtofmagiahmmmgaaGreatDoorP53n11
import Derived.Test.YtofmagiahmmmgaaGreatDoorP53n13
import Derived.Test.YtofmagiahmmmgaaGreatDoorP53n14
namespace Go.Proofs.YtofmagiahmmmgaaGreatDoor
open Go.RowKit
set_option linter.unusedVariables false
set_option maxRecDepth 100000
theorem fitL_take (a b : Gs.St) (n m k s : Nat) (h : s < (n * m + 1) ^ k) : (fitL a b n m k).take (s + 1) = (fitL a b n m k).take s ++ [fitB a b n m k s] := by
  unfold fitL
  rw [← List.map_take, ← List.map_take, List.take_range, List.take_range, Nat.min_eq_left h, Nat.min_eq_left (by omega), List.range_succ, List.map_append]
  rfl
/-- What newPebbles keeps. -/
structure Nw (w : World) (p n : Nat) (S R : ByteArray) (m : Nat) (S2 R2 : ByteArray) (k : Nat) (fv wv : Value) (N : List Bool) (wr : World) : Prop where
  x : Two w wr n S R m S2 R2
  g : PebG wr p n S R m S2 R2 k fv wv
  own : OwnL (p + 1) wr fv N
  pl : w.heap.size + 2 ≤ p
section
variable {w wr w' : World} {p n m k : Nat} {S R S2 R2 : ByteArray} {fv wv fv' : Value} {N N' : List Bool}
theorem Nw.below (h : Nw w p n S R m S2 R2 k fv wv N wr) (hb : Below wr.heap.size wr w') : Nw w p n S R m S2 R2 k fv wv N w' :=
  ⟨h.x.below hb, h.g.below hb, h.own.below hb, h.pl⟩
theorem Nw.cells (h : Nw w p n S R m S2 R2 k fv wv N wr) : wr.cell? ⟨p, 8, none⟩ = some fv ∧ wr.frozen? ⟨p, 8, none⟩ = false ∧ wr.cell? ⟨p, 9, none⟩ = some wv ∧ wr.frozen? ⟨p, 9, none⟩ = false := ⟨h.g.cells.2.2.2.2.1, h.g.cells.2.2.2.2.2.2.2.1, h.g.cells.2.2.2.2.2.1, h.g.cells.2.2.2.2.2.2.2.2⟩
theorem Nw.held (h : Nw w p n S R m S2 R2 k fv wv N wr) (ho : OwnL (p + 1) w' fv' N') (hg : wr.grownBy w' fv.ownBlock) : w'.cell? ⟨p, 8, none⟩ = some fv ∧ w'.frozen? ⟨p, 8, none⟩ = false := by
  have hlt := h.own.lt
  have hgp : w'.heap[p]? = wr.heap[p]? := hg.block p h.g.lt (fun e => by have := (hlt p e.symm).1; omega)
  have hg2 : PebG w' p n S R m S2 R2 k fv wv := ⟨hgp.trans h.g.blk⟩
  exact ⟨hg2.cells.2.2.2.2.1, hg2.cells.2.2.2.2.2.2.2.1⟩
theorem Nw.heldS (h : Nw w p n S R m S2 R2 k fv wv N wr) (hg : wr.grownBy w' fv.ownBlock) : SBlk w' w.heap.size n S R ∧ SBlk w' (w.heap.size + 1) m S2 R2 := by
  have hlt := h.own.lt
  have hpl := h.pl
  exact ⟨(hg.block _ (by have := h.g.lt; omega) (fun e => by have := (hlt _ e.symm).1; omega)).trans h.x.a, (hg.block _ (by have := h.g.lt; omega) (fun e => by have := (hlt _ e.symm).1; omega)).trans h.x.b⟩
theorem Nw.drew (h : Nw w p n S R m S2 R2 k fv wv N wr) : Nw w p n S R m S2 R2 k fv wv N wr.drew := h.below (Below.refl _ _).drew
theorem Nw.push (h : Nw w p n S R m S2 R2 k fv wv N wr) (ho : OwnL (p + 1) w' fv' N') (hg : wr.grownBy w' fv.ownBlock) : Nw w p n S R m S2 R2 k fv' wv N' (w'.setCell ⟨p, 8, none⟩ fv') := by
  have hlt := h.own.lt
  have hpl := h.pl
  have hgp : w'.heap[p]? = wr.heap[p]? := hg.block p h.g.lt (fun e => by have := (hlt p e.symm).1; omega)
  have ha : w'.heap[w.heap.size]? = wr.heap[w.heap.size]? := hg.block _ (by have := h.g.lt; omega) (fun e => by have := (hlt _ e.symm).1; omega)
  have hb : w'.heap[w.heap.size + 1]? = wr.heap[w.heap.size + 1]? := hg.block _ (by have := h.g.lt; omega) (fun e => by have := (hlt _ e.symm).1; omega)
  have hg2 : PebG w' p n S R m S2 R2 k fv wv := ⟨hgp.trans h.g.blk⟩
  refine ⟨⟨?_, ?_, ?_⟩, hg2.setF fv', ?_, h.pl⟩
  · exact (Below.heap_setCell _ _ _ _ (by simp; omega)).trans (ha.trans h.x.a)
  · exact (Below.heap_setCell _ _ _ _ (by simp; omega)).trans (hb.trans h.x.b)
  · exact (h.x.old.grown hg h.x.old.size (fun j hj => by have := (hlt j hj).1; omega)).setCell (by simp; omega) _
  · exact ho.kept (fun j hj _ => Below.heap_setCell _ _ _ _ (fun e => by have h1 := (ho.lt j hj).1; have h2 : j = p := e; omega)) (by simp)
end
/-- The game in memory, all of it in blocks from B on. -/
def PebS (B : Nat) (w : World) (p n : Nat) (S R : ByteArray) (m : Nat) (S2 R2 : ByteArray) (k : Nat) (F W : List Bool) : Prop :=
  ∃ fv wv, PebG w p n S R m S2 R2 k fv wv ∧ BoolsAt w fv F ∧ BoolsAt w wv W ∧ fv.ownBlock ≠ some p ∧ wv.ownBlock ≠ some p ∧ (∀ j, fv.ownBlock = some j → B ≤ j) ∧ ∀ j, wv.ownBlock = some j → B ≤ j
theorem PebS.q {B : Nat} {w : World} {p n m k : Nat} {S R S2 R2 : ByteArray} {F W : List Bool} (h : PebS B w p n S R m S2 R2 k F W) : PebQ w p n S R m S2 R2 k F W := by
  obtain ⟨fv, wv, h1, h2, h3, h4, h5, _, _⟩ := h
  exact ⟨fv, wv, h1, h2, h3, h4, h5⟩
theorem PebS.kept {B : Nat} {w w' : World} {p n m k : Nat} {S R S2 R2 : ByteArray} {F W : List Bool} (h : PebS B w p n S R m S2 R2 k F W) (hp : B ≤ p) (hb : ∀ j, B ≤ j → j < w.heap.size → w'.heap[j]? = w.heap[j]?) (hs : w.heap.size ≤ w'.heap.size) : PebS B w' p n S R m S2 R2 k F W := by
  obtain ⟨fv, wv, h1, h2, h3, h4, h5, h6, h7⟩ := h
  exact ⟨fv, wv, ⟨(hb p hp h1.lt).trans h1.blk⟩, h2.kept (fun j hj hl => hb j (h6 j hj) hl) hs, h3.kept (fun j hj hl => hb j (h7 j hj) hl) hs, h4, h5, h6, h7⟩
/-- What newPebbles returns. -/
def NewP (w : World) (n : Nat) (S R : ByteArray) (m : Nat) (S2 R2 : ByteArray) (k : Nat) (e : Ending) (w' : World) : Prop :=
  ∃ p, e = .returned (.pointer (some ⟨p, 0, none⟩)) ∧ PebS w.heap.size w' p n S R m S2 R2 k (fitL (stOf n S R) (stOf m S2 R2) n m k) (fitL (stOf n S R) (stOf m S2 R2) n m k) ∧ Below w.heap.size w w' ∧ w.heap.size ≤ p
set_option maxHeartbeats 4000000 in
theorem newPebbles_any (n m : Nat) (S R S2 R2 : ByteArray) (L M : List Int) (v u : Value) (w : World) (hg : IntsAt w v L) (hg2 : IntsAt w u M)
    (hyes : pebRdB n S R L m S2 R2 M = true) :
    Calls Tryz.prog 27 #[strV n S R, v, strV m S2 R2, u] w (NewP w n S R m S2 R2 L.length) := by
  obtain ⟨hva, hvb, hrd, hk1, hk3⟩ := ready_rdy hyes
  obtain ⟨hn1, hn8, hS, hR, _, _⟩ := valid_is hva
  obtain ⟨hm1, hm8, hS2, hR2, _, _⟩ := valid_is hvb
  have hR64 : R.size ≤ 64 := by rw [hR]; have := Nat.mul_le_mul hn8 hn8; omega
  have hR264 : R2.size ≤ 64 := by rw [hR2]; have := Nat.mul_le_mul hm8 hm8; omega
  have HT := Lib.hid (Bxp.new w n S R m S2 R2)
  unfold boxS at HT
  have HA := Lib.hid (fun w' (h : Below w.heap.size w w') => areReady_any n S R m S2 R2 L M v u w' (by omega) (by omega) (by omega) (by omega) (hg.below h) (hg2.below h))
  rw [hyes] at HA
  have HLS := Lib.hid (fun p fv wv s w hG hs => listsAt_any p n m L.length S R S2 R2 fv wv s w hG hk3 hn8 hm8 (by omega) hs)
  have HSW := Lib.hid (fun va vb la lb w h1 h2 h3 h4 h5 h6 => sameWay_any n S R m S2 R2 va vb la lb w hS hR hn8 hS2 hR2 hm8 h1 h2 h3 h4 h5 h6)
  obtain ⟨a1, ca, rfl, hc1, hc2, _⟩ := hg.view
  obtain ⟨b1, cb, rfl, _, _, _⟩ := hg2.view
  unfold maxLen at hc2
  generalize L.length = k at *
  have hP65 := pairs_le hn8 hm8
  have HP0 : Hid (0 < n * m + 1) := by show _ < _; omega
  have HPP : Hid (∀ i, i ≤ 3 → (n * m + 1) ^ i ≤ 274625) := fun i hi => pow_le hP65 hi
  have hnmI : (n : Int) * (m : Int) = ((n * m : Nat) : Int) := by rw [Int.natCast_mul]
  obtain ⟨nm, hnm⟩ : ∃ nm, n * m = nm := ⟨_, rfl⟩
  have HNM := Lib.hid hnm
  have hnm64 : nm ≤ 64 := by omega
  rw [hnm] at hnmI
  clear hg hg2 hyes hva hvb hrd hS hR hS2 hR2 hR64 hR264 hP65 hnm
  unfold strV at HA HSW
  unfold strV
  obtain ⟨c0, c1, c2, f0, f1, f2, hl1⟩ := HT.out.a.cells
  obtain ⟨d0, d1, d2, _, _, _, hl2⟩ := HT.out.b.cells
  go_enter Tryz.func27, Tryz.ntmps27
  go_wp2_with fail
  refine (HA.out _ HT.out.old).mono ?_; rintro e w1 ⟨rfl, hb⟩
  have HT3 := Lib.hid (HT.out.below hb); clear hb c0 c1 c2 f0 f1 f2 hl1 d0 d1 d2 hl2
  obtain ⟨c0, c1, c2, f0, f1, f2, hl1⟩ := HT3.out.a.cells
  obtain ⟨d0, d1, d2, _, _, _, hl2⟩ := HT3.out.b.cells
  obtain ⟨p, hp⟩ : ∃ p, w1.heap.size = p := ⟨_, rfl⟩
  have HPW := Lib.hid hp
  obtain ⟨W2, hW2⟩ : ∃ W2, w1.alloc (.cells #[.int .i64 (n : Int), .string S, .string R, .int .i64 (m : Int), .string S2, .string R2, .int .i64 (k : Int), .int .i64 ((nm : Int) + 1), .slice none 0 0, .slice none 0 0, .bool false] 56) = W2 := ⟨_, rfl⟩
  have HW2 := Lib.hid hW2
  have HN0 : Hid (Nw w p n S R m S2 R2 k (.slice none 0 0) (.slice none 0 0) [] W2) := by
    rw [← hW2]
    have ha : Below w1.heap.size w1 (w1.alloc (.cells #[.int .i64 (n : Int), .string S, .string R, .int .i64 (m : Int), .string S2, .string R2, .int .i64 (k : Int), .int .i64 ((nm : Int) + 1), .slice none 0 0, .slice none 0 0, .bool false] 56)) := (Below.refl _ _).alloc (Nat.le_refl _) _
    refine ⟨⟨HT3.out.a.below ha hl1, HT3.out.b.below ha hl2, HT3.out.old.trans (ha.mono HT3.out.old.size)⟩, ⟨?_⟩, OwnL.nil _ _ (by simp; omega), by omega⟩
    rw [← hp, HNM.out]
    exact heap_alloc_new w1 _
  have hps : p < W2.heap.size := HN0.out.g.lt
  clear hp hW2
  go_upto_region 4 with fail
  rw [HW2.out, HPW.out]
  clear HPW HW2 c0 c1 c2 f0 f1 f2 hl1 d0 d1 d2 hl2 HT3 HT
  have hc7 := HN0.out.g.cells.2.2.2.1
  obtain ⟨P, hP⟩ : ∃ P, n * m + 1 = P := ⟨_, rfl⟩
  have HPE := Lib.hid hP
  have HPM : Hid (nm + 1 = P) := by show _ = _; rw [← hP, HNM.out]
  rw [hP] at hc7 HPP HP0
  clear hP
  go_wp2_with fail
  go_loop [34, 10] (fun q st => ∃ (i sv : Nat), i ≤ k ∧ q = .int .i64 (i : Int) ∧ st = .int .i64 (sv : Int) ∧ Hid (sv = P ^ i)) (fun q _ => k - (intOf q).toNat)
  case atStart => exact ⟨0, 1, by omega, rfl, rfl, by show _ = _; rw [Nat.pow_zero]⟩
  case round =>
    obtain ⟨i, sv, hi, rfl, rfl, HSV⟩ := hrel
    by_cases hlt : i < k
    · have hiI : (i : Int) < (k : Int) := by omega
      have hsP : (sv : Int) * (P : Int) = ((sv * P : Nat) : Int) := by rw [Int.natCast_mul]
      have HPN : Hid (sv * P = P ^ (i + 1)) := by show _ = _; rw [HSV.out, Nat.pow_succ]
      have hsPb : sv * P ≤ 274625 := by rw [HPN.out]; exact HPP.out _ (by omega)
      obtain ⟨sP, hsPe⟩ : ∃ sP, sv * P = sP := ⟨_, rfl⟩
      rw [hsPe] at hsP hsPb HPN
      clear hsPe
      go_wp2_with fail
      go_round
      case rel => exact ⟨i + 1, sP, by omega, by go_num, rfl, HPN⟩
      case measure => simp [intOf]; omega
    · obtain rfl : i = k := by omega
      go_wp2_with fail
      have HFT : Hid (∀ s, s < sv → (fitL (stOf n S R) (stOf m S2 R2) n m i).take (s + 1) = (fitL (stOf n S R) (stOf m S2 R2) n m i).take s ++ [fitB (stOf n S R) (stOf m S2 R2) n m i s]) := fun s hs => fitL_take _ _ n m i s (by rw [HPE.out, ← HSV.out]; exact hs)
      have HFL : Hid ((fitL (stOf n S R) (stOf m S2 R2) n m i).length = sv ∧ 0 < sv) := ⟨by rw [fitL_len, HPE.out, HSV.out], by rw [HSV.out]; exact Nat.pow_pos HP0.out⟩
      have HLY : Hid (∀ s, (lyA (n * m + 1) m i s).length = (lyB (n * m + 1) m i s).length ∧ (lyA (n * m + 1) m i s).length ≤ 8 ∧ (∀ z ∈ lyA (n * m + 1) m i s, z < n) ∧ ∀ z ∈ lyB (n * m + 1) m i s, z < m) := fun s => ⟨(ly_len _ _ _ _).1, by have := (ly_len (n * m + 1) m i s).2; omega, lyA_lt (by omega) i s, lyB_lt (by omega) i s⟩
      have HFB : Hid (∀ s, fitB (stOf n S R) (stOf m S2 R2) n m i s = Gs.same (stOf n S R) (lyA (n * m + 1) m i s) (stOf m S2 R2) (lyB (n * m + 1) m i s)) := fun s => rfl
      have hsv : sv ≤ 274625 := by rw [HSV.out]; exact HPP.out _ hk3
      obtain ⟨FT, hFT⟩ : ∃ FT, fitL (stOf n S R) (stOf m S2 R2) n m i = FT := ⟨_, rfl⟩
      have HFTE := Lib.hid hFT
      rw [hFT] at HFT HFL
      clear hFT
      have HN1 : Hid (Nw w p n S R m S2 R2 i (.slice none 0 0) (.slice none 0 0) (FT.take 0) W2) := HN0.out
      clear HN0 hc7
      go_loopw [44, 11, 12, 13] (fun q _ _ _ wr => ∃ (s : Nat) (fv : Value), s ≤ sv ∧ q = .int .i64 (s : Int) ∧ Hid (Nw w p n S R m S2 R2 i fv (.slice none 0 0) (FT.take s) wr)) (fun q _ _ _ _ => sv - (intOf q).toNat)
      case atStart => exact ⟨0, _, by omega, rfl, HN1⟩
      case round =>
        clear HN1
        obtain ⟨s, fv, hs, rfl, HN⟩ := hrel
        by_cases hlt2 : s < sv
        · have hsI : (s : Int) < (sv : Int) := by omega
          have HL1 := Lib.hid (HLS.out p fv (.slice none 0 0) s wr HN.out.g (by omega))
          obtain ⟨hy1, hy2, hy3, hy4⟩ := HLY.out s
          have HLE := Lib.hid hy1
          have HTK : Hid (FT.take (s + 1) = FT.take s ++ [fitB (stOf n S R) (stOf m S2 R2) n m i s]) := HFT.out s hlt2
          rw [HFB.out] at HTK
          have HSW1 := Lib.hid (fun va vb w h1 h2 => HSW.out va vb (lyA (n * m + 1) m i s) (lyB (n * m + 1) m i s) w h1 h2 hy1 hy2 hy3 hy4)
          generalize Gs.same (stOf n S R) (lyA (n * m + 1) m i s) (stOf m S2 R2) (lyB (n * m + 1) m i s) = r at *
          have HTL : Hid ((FT.take s).length ≤ 2000000) := by show _ ≤ _; rw [List.length_take]; omega
          clear hy1 hy2 hy3 hy4
          go_wp2_with fail
          refine HL1.out.mono ?_; rintro e w3 ⟨va, vb, rfl, hna, hnb, hb3⟩
          have HN3 := Lib.hid (HN.out.below hb3)
          have HNA := Lib.hid hna
          have HNB := Lib.hid hnb
          obtain ⟨ea, eca, rfl, _, _, _⟩ := hna.view
          obtain ⟨eb, ecb, rfl, _, _, _⟩ := hnb.view
          clear hna hnb hb3 HL1
          go_upto_region 13 with fail
          obtain ⟨p8, p8f, p9, p9f⟩ := HN3.out.cells
          obtain ⟨c0, c1, c2, f0, f1, f2, hl1⟩ := HN3.out.x.a.cells
          obtain ⟨d0, d1, d2, g0, g1, g2, hl2⟩ := HN3.out.x.b.cells
          have hlp := HN3.out.g.lt
          have hpl := HN3.out.pl
          have hpn1 : p ≠ w.heap.size := by omega
          have hpn2 : p ≠ w.heap.size + 1 := by omega
          have hpn3 : w.heap.size ≠ p := by omega
          have hpn4 : w.heap.size + 1 ≠ p := by omega
          go_region_law
            (first
              | (go_simp; go_at_call 46; refine (HSW1.out _ _ _ (HNA.out.below (Below.refl _ _).drew) (HNB.out.below (Below.refl _ _).drew)).mono ?_; rintro e w5 ⟨rfl, hb5⟩; have HN5 := Lib.hid (HN3.out.drew.below hb5); obtain ⟨p8, p8f, p9, p9f⟩ := HN5.out.cells; obtain ⟨c0, c1, c2, f0, f1, f2, hl1⟩ := HN5.out.x.a.cells; obtain ⟨d0, d1, d2, g0, g1, g2, hl2⟩ := HN5.out.x.b.cells; have hlp := HN5.out.g.lt; clear hb5; go_wp2_with fail)
              | (refine step_ownL1 HN5.out.own HTL rfl (.tmp 57) (.tmp 63) rfl r _ rfl rfl rfl ?_; intro v' w' ho hg; obtain ⟨g1, cap1, hv1, _, _, _, _, _⟩ := ho.cells (by simp); obtain ⟨ln, hln⟩ : ∃ ln, (FT.take s ++ [r]).length = ln := ⟨_, rfl⟩; rw [hln] at hv1; clear hln; subst hv1; have HN6 := Lib.hid (HN5.out.push ho hg); have HC6 := Lib.hid (HN5.out.held ho hg); have HS6 := Lib.hid (HN5.out.heldS hg); obtain ⟨p8, p8f⟩ := HC6.out; obtain ⟨c0, c1, c2, f0, f1, f2, hl1⟩ := HS6.out.1.cells; obtain ⟨d0, d1, d2, g0, g1, g2, hl2⟩ := HS6.out.2.cells; clear ho hg))
          all_goals
            go_wp2_with fail
            go_roundw
            case rel => exact ⟨s + 1, _, by omega, by go_num, by rw [HTK.out]; exact HN6⟩
            case measure => simp [intOf]; omega
        · obtain rfl : s = sv := by omega
          have HTA : Hid (FT.take s = FT) := by show _ = _; rw [← HFL.out.1, List.take_length]
          have HN2 : Hid (Nw w p n S R m S2 R2 i fv (.slice none 0 0) FT wr) := by rw [← HTA.out]; exact HN.out
          clear HN HTA
          have hfb := HN2.out.own.bools (by rw [HFL.out.1]; exact HFL.out.2)
          have HFBo := Lib.hid hfb
          have HLIT := Lib.hid (OwnL.lit0 wr.heap.size wr (Nat.le_refl _))
          have hal : Below wr.heap.size wr (wr.alloc (.cells #[] 4)) := (Below.refl _ _).alloc (Nat.le_refl _) _
          have HN3 := Lib.hid (HN2.out.below hal)
          have HFB3 := Lib.hid (hfb.below hal)
          have HLL : Hid (([] : List Bool).length + FT.length ≤ 2000000) := by show _ ≤ _; rw [HFL.out.1]; simp; omega
          clear hal hfb
          have HFIN : Hid (∀ v' w', OwnL wr.heap.size w' v' ([] ++ FT) → (wr.alloc (.cells #[] 4)).grownBy w' (Value.slice (some ⟨wr.heap.size, 0, none⟩) 0 0).ownBlock →
              ∃ g1 ln cap1, v' = .slice (some ⟨g1, 0, none⟩) ln cap1 ∧ w'.cell? ⟨p, 9, none⟩ = some (.slice none 0 0) ∧ w'.frozen? ⟨p, 9, none⟩ = false ∧ Hid (∃ fv wv, PebG (w'.setCell ⟨p, 9, none⟩ v') p n S R m S2 R2 i fv wv ∧ BoolsAt (w'.setCell ⟨p, 9, none⟩ v') fv FT ∧ BoolsAt (w'.setCell ⟨p, 9, none⟩ v') wv FT ∧ fv.ownBlock ≠ some p ∧ wv.ownBlock ≠ some p ∧ (∀ j, fv.ownBlock = some j → w.heap.size ≤ j) ∧ ∀ j, wv.ownBlock = some j → w.heap.size ≤ j) ∧ Hid (Below w.heap.size w (w'.setCell ⟨p, 9, none⟩ v') ∧ w.heap.size ≤ p)) := by
            intro v' w' ho hg
            rw [List.nil_append] at ho
            have hob := ho.bools (by rw [HFL.out.1]; exact HFL.out.2)
            have hlt := ho.lt
            have hpl := HN3.out.pl
            have hplt := HN2.out.g.lt
            have hg2 : PebG w' p n S R m S2 R2 i fv (.slice none 0 0) := ⟨(hg.block p HN3.out.g.lt (fun e => by
              have e2 : p = wr.heap.size := by simpa [Value.ownBlock] using e
              omega)).trans HN3.out.g.blk⟩
            have hfl := HN3.out.own.lt
            have hbb := HFB3.out
            obtain ⟨g1, cap1, hv1, q1, q2, q3, q4, _⟩ := ho.cells (by rw [HFL.out.1]; exact HFL.out.2)
            refine ⟨g1, _, cap1, hv1, hg2.cells.2.2.2.2.2.1, hg2.cells.2.2.2.2.2.2.2.2, ⟨fv, v', hg2.setW v', ?_, ?_, ?_, ?_, ?_, ?_⟩, ?_, by omega⟩
            · refine (hbb.kept (fun j hj hl => hg.block j hl (fun e => ?_)) hg.size).kept (fun j hj _ => Below.heap_setCell _ _ _ _ (fun e => ?_)) (by simp)
              · have e2 : j = wr.heap.size := by simpa [Value.ownBlock] using e
                obtain ⟨j2, hj2, hj3⟩ := HFBo.out.block
                rw [hj] at hj2; injection hj2 with hj2
                omega
              · have h1 := (hfl j hj).1
                have e2 : j = p := e
                omega
            · refine hob.kept (fun j hj _ => Below.heap_setCell _ _ _ _ (fun e => ?_)) (by simp)
              have h1 := (hlt j hj).1
              have e2 : j = p := e
              omega
            · intro e
              have h1 := (hfl p e).1
              omega
            · intro e
              have h1 := (hlt p e).1
              omega
            · intro j hj
              have h1 := (hfl j hj).1
              omega
            · intro j hj
              have h1 := (hlt j hj).1
              have h2 := HN2.out.x.old.size
              omega
            · exact (HN3.out.x.old.grown hg HN3.out.x.old.size (fun j hj => by
                have e2 : wr.heap.size = j := by simpa [Value.ownBlock] using hj
                have := HN2.out.x.old.size
                omega)).setCell (by simp; omega) _
          obtain ⟨p8, _, _, _⟩ := HN3.out.cells
          clear HN2 HFBo
          go_wp2_with (first | (at_builtin; refine wpList_ownLAll HLIT.out HFB3.out HLL.out rfl (.tmp 69) (.tmp 73) rfl rfl rfl ?_; intro v' w' ho hg; obtain ⟨g1, ln, cap1, hv1, p9, p9f, HQ, HO⟩ := HFIN.out v' w' ho hg; clear ho hg; subst hv1) | fail)
          go_ret
          exact ⟨p, rfl, by rw [HFTE.out]; exact HQ.out, HO.out⟩
end Go.Proofs.YtofmagiahmmmgaaGreatDoor
