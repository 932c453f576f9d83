/- Contracts of the program's functions and what they compute: part 35. Conditions: those that each theorem states. -/
import Derived.Test.YtlkemhhkcanmoaaGreatDoorP54n1
import Derived.Test.YtlkemhhkcanmoaaGreatDoorP54n20
import Derived.Test.YtlkemhhkcanmoaaGreatDoorP54n23
import Derived.Test.YtlkemhhkcanmoaaGreatDoorP54n33
import Derived.Deep.RegionHeld3
import Derived.Deep.DeepCutAuto
namespace Go.Proofs.YtlkemhhkcanmoaaGreatDoor
open Go.RowKit
set_option linter.unusedVariables false
set_option maxRecDepth 100000
/-- The first i elements' numbers of which it is true. -/
def defTo (a : Gs.St) (φ : Fm.T) (i : Nat) : List Nat := (List.range i).filter fun x => Fm.holds a φ (env2 x 0)
theorem defTo_succ (a : Gs.St) (φ : Fm.T) (i : Nat) : defTo a φ (i + 1) = if Fm.holds a φ (env2 i 0) then defTo a φ i ++ [i] else defTo a φ i := by
  unfold defTo
  rw [List.range_succ, List.filter_append]
  by_cases h : Fm.holds a φ (env2 i 0) = true
  · rw [if_pos h]; simp [h]
  · rw [if_neg h]; simp [h]
theorem defTo_length (a : Gs.St) (φ : Fm.T) (i : Nat) : (defTo a φ i).length ≤ i := by
  unfold defTo
  have := List.length_filter_le (fun x => Fm.holds a φ (env2 x 0)) (List.range i)
  simpa using this
theorem defTo_lt {a : Gs.St} {φ : Fm.T} {i x : Nat} (h : x ∈ defTo a φ i) : x < i := by
  unfold defTo at h
  rw [List.mem_filter, List.mem_range] at h
  exact h.1
/-- The defined set. -/
def defSet (f : ByteArray) (n : Int) (S R : ByteArray) : Option (List Nat) :=
  match readB f with
  | none => none
  | some φ => if validB n S R = true ∧ Fm.free φ / 2 = 0 then some (defTo (stOf n.toNat S R) φ n.toNat) else none
theorem defSet_none {f : ByteArray} {n : Int} {S R : ByteArray} (h : readB f = none) : defSet f n S R = none := by unfold defSet; rw [h]
theorem defSet_some {f : ByteArray} {n : Int} {S R : ByteArray} {φ : Fm.T} (h : readB f = some φ) : defSet f n S R = if validB n S R = true ∧ Fm.free φ / 2 = 0 then some (defTo (stOf n.toNat S R) φ n.toNat) else none := by unfold defSet; rw [h]
/-- What the loop keeps. -/
structure Ds (w w5 : World) (F : Nat → Prop) (hb kb n : Nat) (S R : ByteArray) (φ : Fm.T) (p : Nat) (wr : World) (v : Value) (L : List Nat) : Prop where
  own : Own w5.heap.size wr v L
  base : ∃ G', Base F G' wr hb kb n S R ∧ (∀ b, G' b → w.heap.size ≤ b) ∧ ∀ k, v.ownBlock = some k → ¬ G' k
  tree : Tree F wr φ p
  low : ∀ b, F b → b < w5.heap.size
  old : Below w.heap.size w wr
  sz : w.heap.size ≤ w5.heap.size
section
variable {w w5 wr w' w3 : World} {F : Nat → Prop} {hb kb n : Nat} {S R : ByteArray} {φ : Fm.T} {p : Nat} {v v' : Value} {L L' : List Nat}
theorem Base.far {G H : Nat → Prop} (h : Base F G wr hb kb n S R) (hw : Off H wr w') (hF : ∀ b, F b → ¬ H b) (hG : ∀ b, G b → ¬ H b) : Base F G w' hb kb n S R :=
  ⟨(hw.block hb h.hold.cells.2.2.2.2 (hF _ h.foot)).trans h.hold, h.foot, h.memo.off hw hF hG, h.hS, h.hR, h.n1, h.n8⟩
theorem Ds.call {G' : Nat → Prop} {o : Obj} (h : Ds w w5 F hb kb n S R φ p wr v L) (hB : Base F G' wr hb kb n S R) (hl : ∀ b, G' b → w.heap.size ≤ b) (hk : ∀ k, v.ownBlock = some k → ¬ G' k)
    (hev : EverP F G' kb (stOf n S R) (wr.alloc o) w3) : Ds w w5 F hb kb n S R φ p w3 v L := by
  have al : Below wr.heap.size wr (wr.alloc o) := (Below.refl _ _).alloc (Nat.le_refl _) _
  have hB2 := hB.below al
  have hs : (wr.alloc o).heap.size = wr.heap.size + 1 := by simp
  have hso := h.old.size
  obtain ⟨G2, m2, hG2⟩ := hev.memo
  refine ⟨(h.own.below al).off hev.off hk, ⟨G2, hB2.ever hev m2, fun b hb => ?_, fun k hkv hg => ?_⟩, (h.tree.below al).ever hB2.memo hev, h.low, (h.old.trans (al.mono hso)).trans (hev.off.below (B := w.heap.size) (by omega) hl), h.sz⟩
  · rcases hG2 b hb with h1 | h1
    · exact hl b h1
    · omega
  · obtain ⟨k2, e2, _, l2⟩ := h.own.block
    rw [hkv] at e2
    obtain rfl := Option.some.inj e2
    rcases hG2 k hg with h1 | h1
    · exact hk k hkv h1
    · omega
theorem Ds.push (h : Ds w w5 F hb kb n S R φ p wr v L) (hown : Own w5.heap.size w' v' L') (hg : wr.grownBy w' v.ownBlock) (hat : v'.ownBlock = v.ownBlock ∨ ∃ k, v'.ownBlock = some k ∧ wr.heap.size ≤ k) : Ds w w5 F hb kb n S R φ p w' v' L' := by
  obtain ⟨G', hB, hl, hk⟩ := h.base
  obtain ⟨k1, e1, b1, l1⟩ := h.own.block
  have hoff : Off (fun b => v.ownBlock = some b) wr w' := Off.grown hg (fun b e => e)
  have hF : ∀ b, F b → ¬ v.ownBlock = some b := fun b hb e => by
    have := h.low b hb
    rw [e1] at e
    have := Option.some.inj e
    omega
  refine ⟨hown, ⟨G', hB.far hoff hF (fun b hb e => hk b e hb), hl, fun k hkv hg' => ?_⟩, h.tree.off hoff hF, h.low, h.old.trans (hoff.below (B := w.heap.size) h.old.size (fun b e => ?_)), h.sz⟩
  · rcases hat with h1 | ⟨k2, h1, h2⟩
    · exact hk k (h1 ▸ hkv) hg'
    · rw [h1] at hkv
      obtain rfl := Option.some.inj hkv
      have := hB.memo.lt _ hg'
      omega
  · rw [e1] at e
    have := Option.some.inj e
    have := h.sz
    omega
end
/-- What DefinedSet leaves. -/
def DefP (w : World) (r : Option (List Nat)) (e : Ending) (w' : World) : Prop :=
  Below w.heap.size w w' ∧ ((r = none ∧ ∃ v, e = .returned (.tuple #[v, .bool false]) ∧ NumsAt w' v []) ∨ ∃ v L, r = some L ∧ e = .returned (.tuple #[v, .bool true]) ∧ NumsAt w' v L)
set_option maxHeartbeats 1000000 in
theorem implDefined_any (f : ByteArray) (hf : f.size ≤ 9223372036854775807) (n : Int) (S R : ByteArray) (hS : S.size ≤ 9223372036854775807) (hR : R.size ≤ 9223372036854775807) (w : World) :
    Calls Tryz.prog 8 #[strV n S R, .string f] w (DefP w (defSet f n S R)) := by
  have HIS := Lib.hid (fun w => isStructure_any n S R w hS hR)
  have HNH := Lib.hid (fun (m : Nat) (hm : (m : Int) = n) (hv : validB n S R = true) F w hF => newHolder_any m S R (by rw [hm]; exact hv) F w hF)
  have HB : Hid (SBlk (boxS w n S R) w.heap.size n S R ∧ Below w.heap.size w (boxS w n S R)) := ⟨boxS_SBlk _ _ _ _, boxS_below _ _ _ _⟩
  obtain ⟨W, hW⟩ : ∃ W, boxS w n S R = W := ⟨_, rfl⟩
  rw [hW] at HB
  unfold boxS at hW
  obtain ⟨x3, hx3⟩ : ∃ x, w.heap.size = x := ⟨_, rfl⟩
  rw [hx3] at HB
  have HX3 := Lib.hid hx3
  have HW := Lib.hid hW
  clear hW hx3
  obtain ⟨RES, hres⟩ : ∃ r, defSet f n S R = r := ⟨_, rfl⟩
  rw [hres]
  unfold strV at HIS HNH
  unfold strV
  go_enter Tryz.func8, Tryz.ntmps8
  go_upto_region 1 with fail
  rw [HW.out, HX3.out]
  go_wp2_with fail
  refine (parseFormula_any f _ hf).mono ?_
  rintro en w2 ⟨hb2, hor⟩
  have HB2 : Hid (SBlk w2 x3 n S R ∧ Below w.heap.size w w2) := ⟨HB.out.1.below hb2 HB.out.1.cells.2.2.2.2.2.2, (by rw [HX3.out]; exact HB.out.2.trans (hb2.mono (by have := HB.out.2.size; rw [HX3.out] at this; exact this)))⟩
  clear hb2
  rcases hor with ⟨hr, rfl⟩ | ⟨φ, p, hr, rfl, ht⟩
  · have HP : Hid (DefP w RES (.returned (.tuple #[.slice none 0 0, .bool false])) w2) := ⟨HB2.out.2, .inl ⟨by rw [← hres]; exact defSet_none hr, _, rfl, NumsAt.nil _⟩⟩
    clear hr hres
    go_wp2_with fail
    go_ret2
    exact HP.out
  · have HI := Lib.hid (defSet_some (n := n) (S := S) (R := R) hr)
    rw [hres] at HI
    clear hr hres
    have HT := Lib.hid ht
    clear ht
    have s0 := HB2.out.1.cells.1
    have s1 := HB2.out.1.cells.2.1
    have s2 := HB2.out.1.cells.2.2.1
    unfold ptrV
    go_wp2_with fail
    refine (HIS.out _).mono ?_; rintro _ w3 ⟨rfl, hb3⟩
    have HB3 : Hid (SBlk w3 x3 n S R ∧ Below w.heap.size w w3) := ⟨HB2.out.1.below hb3 HB2.out.1.cells.2.2.2.2.2.2, HB2.out.2.trans (hb3.mono HB2.out.2.size)⟩
    have HT3 := Lib.hid (HT.out.below hb3)
    clear s0 s1 s2 hb3
    have s0 := HB3.out.1.cells.1
    have s1 := HB3.out.1.cells.2.1
    have s2 := HB3.out.1.cells.2.2.1
    obtain ⟨v, u, qs, nd, _⟩ := HT3.out.node
    have c3 := nd.cells.2.2.2.1
    have hfl := Fm.free_lt φ
    clear nd
    obtain ⟨fr, hfr⟩ : ∃ fr, Fm.free φ = fr := ⟨_, rfl⟩
    rw [hfr] at c3 hfl HI
    cases hv : validB n S R
    · have HP : Hid (DefP w RES (.returned (.tuple #[.slice none 0 0, .bool false])) w3) := ⟨HB3.out.2, .inl ⟨by rw [HI.out, hv]; simp, _, rfl, NumsAt.nil _⟩⟩
      clear hv
      go_wp2_with fail
      go_ret2
      exact HP.out
    · by_cases h0 : fr / 2 = 0
      · have HI2 : Hid (RES = some (defTo (stOf n.toNat S R) φ n.toNat)) := HI.out.trans (if_pos ⟨hv, h0⟩)
        have h0I : (fr : Int) / 2 = 0 := by omega
        obtain ⟨m, rfl⟩ : ∃ m : Nat, n = m := by
          simp only [validB, Bool.and_eq_true, inB_iff] at hv
          exact Int.eq_ofNat_of_zero_le (by omega)
        obtain ⟨h1, h8, hSm, hRm, _, _⟩ := valid_is hv
        rw [Int.toNat_natCast] at HI2
        have HNV := Lib.hid hv
        have HNH2 := Lib.hid (HNH.out m rfl hv)
        clear hv HI
        go_wp2_with fail
        refine (HNH2.out (fun b => W.heap.size ≤ b ∧ b < w3.heap.size) w3 (fun b hb => hb.2)).mono ?_
        rintro _ w5 ⟨hb, kb, rfl, hkb, hbase, hb5⟩
        have HD : Hid (Ds w w5 (fun b => (W.heap.size ≤ b ∧ b < w3.heap.size) ∨ b = hb) hb kb m S R φ p (w5.alloc (.cells #[] 3)) (.slice (some ⟨w5.heap.size, 0, none⟩) 0 0) (defTo (stOf m S R) φ 0)) := by
          have al : Below w5.heap.size w5 (w5.alloc (.cells #[] 3)) := (Below.refl _ _).alloc (Nat.le_refl _) _
          have hz := HB3.out.2.size
          have hz5 := hb5.size
          refine ⟨Own.lit0 _ w5 (Nat.le_refl _), ⟨fun b => b = kb, hbase.below al, fun b e => by subst e; omega, fun k hk e => ?_⟩, ((HT3.out.tight.below hb5).mono (fun b h => .inl h)).below al, fun b hb' => ?_, HB3.out.2.trans ((hb5.mono hz).trans (al.mono (by omega))), by omega⟩
          · have := hbase.memo.lt kb rfl
            have e1 : w5.heap.size = k := Option.some.inj hk
            omega
          · rcases hb' with h | h
            · omega
            · subst h; exact hbase.hold.cells.2.2.2.2
        have HSZ := Lib.hid (SBlk.below (SBlk.below HB3.out.1 hb5 HB3.out.1.cells.2.2.2.2.2.2) ((Below.refl w5.heap.size w5).alloc (Nat.le_refl _) (.cells #[] 3)) (SBlk.below HB3.out.1 hb5 HB3.out.1.cells.2.2.2.2.2.2).cells.2.2.2.2.2.2)
        have s5 := HSZ.out.cells.1
        clear s0 s1 s2 c3 hbase hb5 hkb
        unfold ptrV
        go_wp2_with fail
        go_loopw [32, 8] (fun i v wr => ∃ x : Nat, x ≤ m ∧ i = .int .i64 (x : Int) ∧ Hid (Ds w w5 (fun b => (W.heap.size ≤ b ∧ b < w3.heap.size) ∨ b = hb) hb kb m S R φ p wr v (defTo (stOf m S R) φ x))) (fun i _ _ => m - (intOf i).toNat)
        case atStart => exact ⟨0, by omega, rfl, HD.out⟩
        case round =>
          obtain ⟨x, hx, rfl, HI⟩ := hrel
          by_cases hlt : x < m
          · obtain ⟨G', hB, hl, hk⟩ := HI.out.base
            have al : Below wr.heap.size wr (wr.alloc (.cells #[.int .i64 (x : Int)] 3)) := (Below.refl _ _).alloc (Nat.le_refl _) _
            have HC := Lib.hid (holds_one φ _ G' (wr.alloc (.cells #[.int .i64 (x : Int)] 3)) hb kb m S R p wr.heap.size x (hB.below al) (HI.out.tree.below al) hlt (by simp))
            have HST := Lib.hid (fun w3 => HI.out.call (o := .cells #[.int .i64 (x : Int)] 3) (w3 := w3) hB hl hk)
            have HDS := Lib.hid (defTo_succ (stOf m S R) φ x)
            have HLL : Hid ((defTo (stOf m S R) φ x).length ≤ 2000000) := by have := defTo_length (stOf m S R) φ x; show _ ≤ _; omega
            clear hB hl hk al
            obtain ⟨b, hbv⟩ : ∃ b, Fm.holds (stOf m S R) φ (env2 x 0) = b := ⟨_, rfl⟩
            rw [hbv] at HC HDS
            clear hbv
            unfold ptrV at HC
            cases b
            · go_wp2_with fail
              refine HC.out.mono ?_; rintro _ w6 ⟨rfl, hev⟩
              have HI6 := Lib.hid (HST.out _ hev)
              clear hev
              go_wp2_with fail
              go_roundw
              case rel => exact ⟨x + 1, by omega, by go_num, by rw [HDS.out]; exact HI6.out⟩
              case measure => simp [intOf]; omega
            · go_wp2_with fail
              refine HC.out.mono ?_; rintro _ w6 ⟨rfl, hev⟩
              have HI6 := Lib.hid (HST.out _ hev)
              clear hev
              go_wp2_with (first | (at_builtin; refine wpList_own1at HI6.out.own HLL.out rfl (.tmp 40) (.tmp 42) rfl x _ rfl rfl rfl ?_; intro v' w' ho hg hat; have HI7 := Lib.hid (HI6.out.push ho hg hat); clear ho hg hat) | fail)
              go_roundw
              case rel => exact ⟨x + 1, by omega, by go_num, by rw [HDS.out]; exact HI7.out⟩
              case measure => simp [intOf]; omega
          · have hxm : x = m := by omega
            have HP : Hid (DefP w RES (.returned (.tuple #[u8, .bool true])) wr) := ⟨HI.out.old, .inr ⟨_, _, HI2.out, rfl, by have := HI.out.own.nums; rw [hxm] at this; exact this⟩⟩
            clear hxm
            go_wp2_with fail
            go_ret2
            exact HP.out
      · have HP : Hid (DefP w RES (.returned (.tuple #[.slice none 0 0, .bool false])) w3) := ⟨HB3.out.2, .inl ⟨by rw [HI.out]; exact if_neg (fun h => h0 h.2), _, rfl, NumsAt.nil _⟩⟩
        have h0I : ¬ (fr : Int) / 2 = 0 := by omega
        clear hv
        go_wp2_with fail
        go_ret2
        exact HP.out
end Go.Proofs.YtlkemhhkcanmoaaGreatDoor
