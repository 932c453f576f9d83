/- Contracts of the program's functions and what they compute: part 22. Conditions: those that each theorem states. -/
import Derived.Test.YtfhogenjpepfnaaGreatDoorP51n6
import Derived.Test.YtfhogenjpepfnaaGreatDoorP51n20
import Derived.Test.YtfhogenjpepfnaaGreatDoorP51n21
import Derived.IntWalk
import Derived.Laws.EntriesVeiled
namespace Go.Proofs.YtfhogenjpepfnaaGreatDoor
open Go.RowKit
set_option linter.unusedVariables false
set_option maxRecDepth 100000
namespace Gs
/-- The orders from the first x choices. -/
def partTo (a b : St) (k : Nat) (o : List Nat) (x : Nat) : List (List Nat) := (List.range x).flatMap fun x => if o.contains x || !fitsI a b o x then [] else shapesF a b k (o ++ [x])
theorem partTo_succ (a b : St) (k : Nat) (o : List Nat) (x : Nat) : partTo a b k o (x + 1) = partTo a b k o x ++ if o.contains x || !fitsI a b o x then [] else shapesF a b k (o ++ [x]) := by
  unfold partTo
  rw [List.range_succ, List.flatMap_append]
  simp
theorem partTo_no {a b : St} {k : Nat} {o : List Nat} {x : Nat} (h : (o.contains x || !fitsI a b o x) = true) : partTo a b k o (x + 1) = partTo a b k o x := by
  rw [partTo_succ, if_pos h, List.append_nil]
theorem partTo_yes {a b : St} {k : Nat} {o : List Nat} {x : Nat} (h : (o.contains x || !fitsI a b o x) = false) : partTo a b k o (x + 1) = partTo a b k o x ++ shapesF a b k (o ++ [x]) := by
  rw [partTo_succ, if_neg (by rw [h]; simp)]
theorem shapesF_succ (a b : St) (k : Nat) (o : List Nat) : shapesF a b (k + 1) o = partTo a b k o a.n := rfl
/-- What is told: all, or the first one alone. -/
def toldOf (c : Bool) (l : List (List Nat)) : List (List Nat) := if c then l else l.take 1
theorem partTo_pre {a b : St} {k : Nat} {o : List Nat} : ∀ {x y : Nat}, x ≤ y → ∃ m, partTo a b k o y = partTo a b k o x ++ m
  | x, 0, h => ⟨[], by have : x = 0 := by omega
                       subst this; simp⟩
  | x, y + 1, h => by
    by_cases e : x = y + 1
    · exact ⟨[], by rw [e]; simp⟩
    · obtain ⟨m, hm⟩ := partTo_pre (a := a) (b := b) (k := k) (o := o) (x := x) (y := y) (by omega)
      rw [partTo_succ, hm, List.append_assoc]
      exact ⟨_, rfl⟩
end Gs
/-- A slice of the call's own, cut. -/
theorem Own.take {B g cap : Nat} {w : World} {L : List Nat} (h : Own B w (.slice (some ⟨g, 0, none⟩) L.length cap) L) (i : Nat) (hi : i ≤ L.length) : Own B w (.slice (some ⟨g, 0, none⟩) i cap) (L.take i) := by
  have hl : (L.take i).length = i := by rw [List.length_take]; omega
  refine ⟨⟨by simp, ?_⟩, by simp, h.low⟩
  rw [hl]
  rcases h.own.2 with ⟨h1, h2⟩ | ⟨g', cap', cur, he, hb, hg, hnc, hcm, hcs, htake⟩
  · cases h1
  · injection he with e1 e2 e3
    injection e1 with e1
    injection e1 with e1
    subst e1; subst e3
    refine .inr ⟨g, cap, cur, rfl, hb, hg, by omega, hcm, hcs, ?_⟩
    rw [List.map_take, ← htake, List.take_take]
    congr 1
    omega
/-- A function that is told orders: what it keeps count of, J, lies below the block h; it turns the blocks T alone. -/
structure Teller (n h : Nat) (kt : FuncId) (caps : Array Value) (c : Bool) (T : Nat → Prop) (J : List (List Nat) → World → Prop) : Prop where
  low : ∀ b, T b → b < h
  enter : ∀ (args : Array Value) (W : World), (callFunc kt args).run Tryz.prog W = .ok (.enter kt args) W
  call : ∀ (ts : List (List Nat)) (o : List Nat) (v : Value) (W : World), (c = true ∨ ts = []) → J ts W → NumsAt W v o → o.length ≤ 8 → h ≤ W.heap.size → o.length = n → (∀ z ∈ o, z < n) → Calls Tryz.prog kt (#[v] ++ caps) W fun e W' => e = .returned (.bool c) ∧ J (ts ++ [o]) W' ∧ Off T W W'
  keep : ∀ (ts : List (List Nat)) (W W' : World), (c = true ∨ ts = []) → J ts W → Below h W W' → J ts W'
/-- What place keeps. -/
structure Ps (zb : Nat) (w0 : World) (n : Nat) (S R S2 R2 : ByteArray) (kt : FuncId) (caps : Array Value) (c : Bool) (T : Nat → Prop) (J : List (List Nat) → World → Prop) (W : World) (ts : List (List Nat)) (v : Value) (o : List Nat) : Prop where
  a : SBlk W zb n S R
  b : SBlk W (zb + 1) n S2 R2
  t : W.heap[zb + 2]? = some (.cells #[.func (.func kt) #[] caps] 45 (0, 0))
  bo : W.heap[zb + 4]? = some (.cells #[v] 30 (0, 0))
  bp : W.heap[zb + 5]? = some (.cells #[.func (.func 40) #[] #[.pointer (some ⟨zb + 4, 0, none⟩), .pointer (some ⟨zb, 0, none⟩), .pointer (some ⟨zb + 2, 0, none⟩), .pointer (some ⟨zb + 1, 0, none⟩), .pointer (some ⟨zb + 5, 0, none⟩)]] 62 (0, 0))
  own : Own (zb + 3) W v o
  at_ : ∀ k, v.ownBlock = some k → k = zb + 3 ∨ zb + 6 ≤ k
  j : J ts W
  more : c = true ∨ ts = []
  old : Off T w0 W
section
variable {h : Nat} {w0 : World} {n : Nat} {S R S2 R2 : ByteArray} {kt : FuncId} {caps : Array Value} {c : Bool} {T : Nat → Prop} {J : List (List Nat) → World → Prop} {W W' : World} {ts : List (List Nat)} {v v' : Value} {o o' : List Nat}
theorem cell_of {W : World} {b : Nat} {x : Value} {t : TypeId} (h : W.heap[b]? = some (.cells #[x] t (0, 0))) : W.cell? ⟨b, 0, none⟩ = some x ∧ W.frozen? ⟨b, 0, none⟩ = false ∧ b < W.heap.size := by
  refine ⟨by unfold World.cell?; rw [h]; rfl, by unfold World.frozen?; rw [h]; rfl, (Array.getElem?_eq_some_iff.1 h).1⟩
theorem Ps.size (p : Ps h w0 n S R S2 R2 kt caps c T J W ts v o) : h + 6 ≤ W.heap.size := (cell_of p.bp).2.2
theorem Ps.below (tl : Teller n h kt caps c T J) (p : Ps h w0 n S R S2 R2 kt caps c T J W ts v o) (hb : Below W.heap.size W W') : Ps h w0 n S R S2 R2 kt caps c T J W' ts v o := by
  have hs := p.size
  exact ⟨p.a.below hb (by omega), p.b.below hb (by omega), (hb.block _ (by omega)).trans p.t, (hb.block _ (by omega)).trans p.bo, (hb.block _ (by omega)).trans p.bp, p.own.below hb, p.at_, tl.keep _ _ _ p.more p.j (hb.mono (by omega)), p.more, p.old.trans (Off.of_below (F := fun _ => False) hb) (fun b hb => hb.elim)⟩
/-- Behind an append to the order, and its store. -/
theorem Ps.push (hw : w0.heap.size = h) (tl : Teller n h kt caps c T J) (p : Ps h w0 n S R S2 R2 kt caps c T J W ts v o) (ho : Own (h + 3) W' v' o') (hg : W.grownBy W' v.ownBlock) (hat : v'.ownBlock = v.ownBlock ∨ ∃ k, v'.ownBlock = some k ∧ W.heap.size ≤ k) :
    Ps h w0 n S R S2 R2 kt caps c T J (W'.setCell ⟨h + 4, 0, none⟩ v') ts v' o' := by
  have hs := p.size
  have hk : ∀ k, k < h + 3 ∨ k = h + 4 ∨ k = h + 5 → v.ownBlock ≠ some k := fun k hk e => by have := p.at_ k e; omega
  have hat' : ∀ k, v'.ownBlock = some k → k = h + 3 ∨ h + 6 ≤ k := fun k e => by
    rcases hat with h1 | ⟨k', h1, h2⟩
    · exact p.at_ k (h1.symm.trans e)
    · rw [h1] at e; injection e with e; omega
  have hlow : Below h W W' := ⟨hg.os, hg.tape, hg.output, hg.size, fun k hk' => hg.block k (by omega) (fun e => hk k (by omega) e.symm)⟩
  have hlow2 : Below h W (W'.setCell ⟨h + 4, 0, none⟩ v') := hlow.setCell (by simp) _
  have gsz := hg.size
  refine ⟨?_, ?_, ?_, ?_, ?_, ?_, hat', tl.keep _ _ _ p.more p.j hlow2, p.more, p.old.trans (F1 := fun b => h ≤ b) ⟨hlow2.os, hlow2.tape, hlow2.output, hlow2.size, fun k hk' hn => hlow2.block k (by omega)⟩ (fun b hb => .inr (by omega))⟩
  · exact SBlk.far (b := h) ((hg.block h (by omega) (fun e => hk h (by omega) e.symm)).trans p.a) (by simp) _
  · exact SBlk.far (b := h + 1) ((hg.block (h + 1) (by omega) (fun e => hk (h + 1) (by omega) e.symm)).trans p.b) (by simp) _
  · exact (Below.heap_setCell W' ⟨h + 4, 0, none⟩ v' (h + 2) (by simp)).trans ((hg.block (h + 2) (by omega) (fun e => hk (h + 2) (by omega) e.symm)).trans p.t)
  · have h4 := (hg.block (h + 4) (by omega) (fun e => hk (h + 4) (by omega) e.symm)).trans p.bo
    show (W'.setCell ⟨h + 4, 0, none⟩ v').heap[h + 4]? = _
    simp [World.setCell, Array.getElem?_modify, h4]
  · exact (Below.heap_setCell W' ⟨h + 4, 0, none⟩ v' (h + 5) (by simp)).trans ((hg.block (h + 5) (by omega) (fun e => hk (h + 5) (by omega) e.symm)).trans p.bp)
  · refine ho.kept (fun k hk1 _ => Below.heap_setCell W' ⟨h + 4, 0, none⟩ v' k ?_) (by simp)
    have := hat' k hk1
    simp; omega
/-- Behind the order's cut, and its store. -/
theorem Ps.pop (hw : w0.heap.size = h) (tl : Teller n h kt caps c T J) (p : Ps h w0 n S R S2 R2 kt caps c T J W ts v o) (i : Nat) (hi : i ≤ o.length) : ∃ g cap, v = .slice (some ⟨g, 0, none⟩) o.length cap ∧ o.length ≤ cap ∧ cap ≤ maxLen ∧ Ps h w0 n S R S2 R2 kt caps c T J (W.setCell ⟨h + 4, 0, none⟩ (.slice (some ⟨g, 0, none⟩) i cap)) ts (.slice (some ⟨g, 0, none⟩) i cap) (o.take i) := by
  obtain ⟨g, cap, rfl, _, _, h3, h4, _⟩ := p.own.cells
  exact ⟨g, cap, rfl, h3, h4, p.push hw tl (p.own.take i hi) ⟨rfl, rfl, rfl, Nat.le_refl _, fun _ _ _ => rfl⟩ (.inl rfl)⟩
/-- Behind a call of the teller. -/
theorem Ps.told (tl : Teller n h kt caps c T J) (p : Ps h w0 n S R S2 R2 kt caps c T J W ts v o) (hc : c = true) (hj : J (ts ++ [o]) W') (hf : Off T W W') : Ps h w0 n S R S2 R2 kt caps c T J W' (ts ++ [o]) v o := by
  have hs := p.size
  have hk : ∀ k, h ≤ k → ¬ T k := fun k hk e => by have := tl.low k e; omega
  refine ⟨(hf.block h (by omega) (hk _ (by omega))).trans p.a, (hf.block (h + 1) (by omega) (hk _ (by omega))).trans p.b, (hf.block (h + 2) (by omega) (hk _ (by omega))).trans p.t, (hf.block (h + 4) (by omega) (hk _ (by omega))).trans p.bo, (hf.block (h + 5) (by omega) (hk _ (by omega))).trans p.bp, p.own.off hf (fun k e => hk _ (by have := p.at_ k e; omega)), p.at_, hj, .inl hc, p.old.trans hf (fun b hb => .inl hb)⟩
end
/-- What place leaves: of the orders R what is told behind the ones told before. -/
def PlaceP (zb : Nat) (w0 : World) (n : Nat) (S R S2 R2 : ByteArray) (kt : FuncId) (caps : Array Value) (c : Bool) (T : Nat → Prop) (J : List (List Nat) → World → Prop) (ts : List (List Nat)) (o : List Nat) (RS : List (List Nat)) (e : Ending) (W' : World) : Prop :=
  ∃ r : Bool, e = .returned (.bool r) ∧ r = (c || RS.isEmpty) ∧ (r = true → ∃ v', Ps zb w0 n S R S2 R2 kt caps c T J W' (ts ++ Gs.toldOf c RS) v' o) ∧ J (ts ++ Gs.toldOf c RS) W' ∧ Off T w0 W'
/-- What place does from an order. -/
def PlaceOK (zb : Nat) (w0 : World) (n : Nat) (S R S2 R2 : ByteArray) (kt : FuncId) (caps : Array Value) (c : Bool) (T : Nat → Prop) (J : List (List Nat) → World → Prop) (k : Nat) : Prop :=
  ∀ (W : World) (ts : List (List Nat)) (v : Value) (o : List Nat), o.length + k = n → (∀ z ∈ o, z < n) → Ps zb w0 n S R S2 R2 kt caps c T J W ts v o →
    Calls Tryz.prog 40 #[.pointer (some ⟨zb + 4, 0, none⟩), .pointer (some ⟨zb, 0, none⟩), .pointer (some ⟨zb + 2, 0, none⟩), .pointer (some ⟨zb + 1, 0, none⟩), .pointer (some ⟨zb + 5, 0, none⟩)] W
      (PlaceP zb w0 n S R S2 R2 kt caps c T J ts o (Gs.shapesF (stOf n S R) (stOf n S2 R2) k o))
set_option maxHeartbeats 2000000 in
theorem place_zero (zb : Nat) (w0 : World) (n : Nat) (S R S2 R2 : ByteArray) (kt : FuncId) (caps : Array Value) (c : Bool) (T : Nat → Prop) (J : List (List Nat) → World → Prop) (hn : n ≤ 8) (tl : Teller n zb kt caps c T J) : PlaceOK zb w0 n S R S2 R2 kt caps c T J 0 := by
  intro W ts v o hl ho p
  have hT : Gs.shapesF (stOf n S R) (stOf n S2 R2) 0 o = [o] := rfl
  have hT2 : Gs.toldOf c [o] = [o] := by unfold Gs.toldOf; cases c <;> rfl
  rw [hT]
  have HP := Lib.hid p
  have HTL := Lib.hid tl
  have HC := Lib.hid (tl.call ts o v W p.more p.j p.own.nums (by omega) (by have := p.size; omega) (by omega) ho)
  have en := tl.enter
  obtain ⟨g, cap, rfl, g1, g2, g3, g4, g5⟩ := p.own.cells
  obtain ⟨c0, f0, b0⟩ := cell_of p.bo
  obtain ⟨c1, f1, b1⟩ := cell_of p.t
  obtain ⟨a0, _, _, _, _, _, _⟩ := p.a.cells
  have hl' : o.length = n := by omega
  rw [hl'] at c0 HC HP
  have HT2 := Lib.hid hT2
  clear hT hT2 g1 g2 g5 ho hl hl' p tl
  unfold maxLen at g4
  go_enter Tryz.func40, Tryz.ntmps40
  go_wp2_with fail
  refine HC.out.mono ?_; rintro e w1 ⟨rfl, hj, hf⟩
  have HE : Hid (J (ts ++ [o]) w1 ∧ Off T w0 w1 ∧ (c = true → ∃ v', Ps zb w0 n S R S2 R2 kt caps c T J w1 (ts ++ [o]) v' o)) := ⟨hj, HP.out.old.trans hf (fun b hb => .inl hb), fun hc => ⟨_, HP.out.told HTL.out hc hj hf⟩⟩
  clear hj hf
  go_wp2_with fail
  go_ret
  exact ⟨c, rfl, by simp, by rw [HT2.out]; exact HE.out.2.2, by rw [HT2.out]; exact HE.out.1, HE.out.2.1⟩
theorem told_pre {l m : List (List Nat)} (h : l ≠ []) : Gs.toldOf false (l ++ m) = Gs.toldOf false l := by
  unfold Gs.toldOf
  cases l with
  | nil => exact absurd rfl h
  | cons x l => rfl
set_option maxHeartbeats 4000000 in
theorem place_step (zb : Nat) (w0 : World) (hw : w0.heap.size = zb) (n : Nat) (S R S2 R2 : ByteArray) (kt : FuncId) (caps : Array Value) (c : Bool) (T : Nat → Prop) (J : List (List Nat) → World → Prop) (hn : n ≤ 8)
    (hS : S.size = n) (hR : R.size = n * n) (hS2 : S2.size = n) (hR2 : R2.size = n * n) (tl : Teller n zb kt caps c T J) (k : Nat) (IH : PlaceOK zb w0 n S R S2 R2 kt caps c T J k) : PlaceOK zb w0 n S R S2 R2 kt caps c T J (k + 1) := by
  intro W ts v o hl ho p
  rw [Gs.shapesF_succ]
  have HTL := Lib.hid tl
  have HW := Lib.hid hw
  have HIH := Lib.hid IH
  have HO := Lib.hid ho
  have HPL := Lib.hid (fun v x w hv hx => placed_any n S R S2 R2 v o x w hS hR hn hS2 hR2 hv (by omega) ho hx)
  have hln : o.length < n := by omega
  have hi8 : o.length ≤ 7 := by omega
  obtain ⟨i, hi⟩ : ∃ i, o.length = i := ⟨_, rfl⟩
  have HI := Lib.hid hi
  have HL := Lib.hid hl
  have HP0 : Hid (∃ v', Ps zb w0 n S R S2 R2 kt caps c T J W (ts ++ Gs.partTo (stOf n S R) (stOf n S2 R2) k o 0) v' o) := ⟨v, by
    have : Gs.partTo (stOf n S R) (stOf n S2 R2) k o 0 = [] := rfl
    rw [this, List.append_nil]; exact p⟩
  obtain ⟨g, cap, rfl, g1, g2, g3, g4, g5⟩ := p.own.cells
  obtain ⟨c0, f0, b0⟩ := cell_of p.bo
  obtain ⟨a0, a1, a2, _, _, _, _⟩ := p.a.cells
  rw [hi] at c0 hln hi8 g3
  have hnI : ((i : Int) == (n : Int)) = false := by simp; omega
  have hnI2 : ¬ (i : Int) = (n : Int) := by omega
  have HMORE := Lib.hid p.more
  clear tl hw IH ho hl hi g1 g2 g5 p
  unfold maxLen at g4
  obtain ⟨RES, hres⟩ : ∃ l, Gs.partTo (stOf n S R) (stOf n S2 R2) k o (stOf n S R).n = l := ⟨_, rfl⟩
  rw [hres]
  have HRES : Hid (Gs.partTo (stOf n S R) (stOf n S2 R2) k o n = RES) := hres
  clear hres hS hR hS2 hR2
  have hnn : (stOf n S R).n = n := rfl
  go_enter Tryz.func40, Tryz.ntmps40
  go_wp2_with fail
  go_loopw [19] (fun q wr => ∃ x : Nat, x ≤ n ∧ q = .int .i64 (x : Int) ∧ Hid ((c = true ∨ Gs.partTo (stOf n S R) (stOf n S2 R2) k o x = []) ∧ ∃ v', Ps zb w0 n S R S2 R2 kt caps c T J wr (ts ++ Gs.partTo (stOf n S R) (stOf n S2 R2) k o x) v' o)) (fun q _ => n - (intOf q).toNat)
  case atStart => exact ⟨0, by omega, rfl, .inr rfl, HP0.out⟩
  case round =>
    clear HP0 c0 f0 b0 a0 a1 a2
    obtain ⟨x, hx, rfl, HX⟩ := hrel
    by_cases hlt : x < n
    · have hltI : (x : Int) < (n : Int) := by omega
      obtain ⟨hm, v1, hp⟩ := HX.out
      have HP := Lib.hid hp
      have HM := Lib.hid hm
      clear HX hm hp
      obtain ⟨g', cap', rfl, g1', g2', g3', g4', g5'⟩ := HP.out.own.cells
      obtain ⟨c0, f0, b0⟩ := cell_of HP.out.bo
      obtain ⟨a0, a1, a2, e0, e1, e2, ah⟩ := HP.out.a.cells
      obtain ⟨b0', b1', b2', e0', e1', e2', bh⟩ := HP.out.b.cells
      have HCO := Lib.hid (contains_num _ o x wr HP.out.own.nums)
      have HPX := Lib.hid (HPL.out _ x wr HP.out.own.nums hlt)
      obtain ⟨d, hd⟩ : ∃ d, decide (x ∈ o) = d := ⟨_, rfl⟩
      have HD : Hid (o.contains x = d) := by show _ = _; rw [← hd]; simp
      obtain ⟨ft, hft⟩ : ∃ d, Gs.fitsI (stOf n S R) (stOf n S2 R2) o x = d := ⟨_, rfl⟩
      rw [HI.out, hd] at HCO
      rw [HI.out, hft] at HPX
      rw [HI.out] at c0 g3'
      have HF := Lib.hid hft
      clear hd hft g1' g2' g5'
      unfold maxLen at g4'
      unfold strV at HPX
      cases d
      · cases ft
        · have HS : Hid (Gs.partTo (stOf n S R) (stOf n S2 R2) k o (x + 1) = Gs.partTo (stOf n S R) (stOf n S2 R2) k o x) := Gs.partTo_no (by rw [HD.out, HF.out]; rfl)
          go_wp2_with fail
          refine HCO.out.mono ?_; rintro e w1 ⟨rfl, hw1⟩; rw [hw1]; clear hw1 w1
          go_wp2_with fail
          refine HPX.out.mono ?_; rintro e w1 ⟨rfl, hb1⟩
          have HP1 := Lib.hid (HP.out.below HTL.out hb1)
          clear hb1
          go_wp2_with fail
          go_roundw
          case rel => exact ⟨x + 1, by omega, by go_num, by rw [HS.out]; exact HM.out, _, by rw [HS.out]; exact HP1.out⟩
          case measure => simp [intOf]; omega
        · have HS : Hid (Gs.partTo (stOf n S R) (stOf n S2 R2) k o (x + 1) = Gs.partTo (stOf n S R) (stOf n S2 R2) k o x ++ Gs.shapesF (stOf n S R) (stOf n S2 R2) k (o ++ [x])) := Gs.partTo_yes (by rw [HD.out, HF.out]; rfl)
          go_wp2_with fail
          refine HCO.out.mono ?_; rintro e w1 ⟨rfl, hw1⟩; rw [hw1]; clear hw1 w1
          go_wp2_with fail
          refine HPX.out.mono ?_; rintro e w1 ⟨rfl, hb1⟩
          have HP1 := Lib.hid (HP.out.below HTL.out hb1)
          clear hb1 HPX HCO HP c0 f0 b0 a0 a1 a2 e0 e1 e2 ah b0' b1' b2' e0' e1' e2' bh
          obtain ⟨c0, f0, b0⟩ := cell_of HP1.out.bo
          rw [HI.out] at c0
          have HOW := Lib.hid HP1.out.own
          rw [HI.out] at HOW
          go_upto_region 8 with fail
          have HPU : Hid (∀ v2 w2, Own (zb + 3) w2 v2 (o ++ [x]) → w1.grownBy w2 (Value.slice (some ⟨g', 0, none⟩) i cap').ownBlock → (v2.ownBlock = (Value.slice (some ⟨g', 0, none⟩) i cap').ownBlock ∨ ∃ k, v2.ownBlock = some k ∧ w1.heap.size ≤ k) →
              ∃ g2 cap2, v2 = .slice (some ⟨g2, 0, none⟩) (i + 1) cap2 ∧ Hid (Ps zb w0 n S R S2 R2 kt caps c T J (w2.setCell ⟨zb + 4, 0, none⟩ v2) (ts ++ Gs.partTo (stOf n S R) (stOf n S2 R2) k o x) v2 (o ++ [x])) ∧ w2.cell? ⟨zb + 4, 0, none⟩ = some (.slice (some ⟨g', 0, none⟩) i cap') ∧ w2.frozen? ⟨zb + 4, 0, none⟩ = false ∧
                (w2.setCell ⟨zb + 4, 0, none⟩ v2).cell? ⟨zb + 5, 0, none⟩ = some (.func (.func 40) #[] #[.pointer (some ⟨zb + 4, 0, none⟩), .pointer (some ⟨zb, 0, none⟩), .pointer (some ⟨zb + 2, 0, none⟩), .pointer (some ⟨zb + 1, 0, none⟩), .pointer (some ⟨zb + 5, 0, none⟩)])) := by
            intro v2 w2 ho hg hat
            have hh := hg.block (zb + 4) b0 (fun e => by have := HP1.out.at_ (zb + 4) e.symm; omega)
            rw [HP1.out.bo] at hh
            obtain ⟨q1, q2, _⟩ := cell_of hh
            rw [HI.out] at q1
            have hp := HP1.out.push HW.out HTL.out ho hg hat
            obtain ⟨g2, cap2, rfl, _, _, m1, m2, _⟩ := ho.cells
            have hlx : (o ++ [x]).length = i + 1 := by simp [HI.out]
            rw [hlx] at hp ⊢
            exact ⟨g2, cap2, rfl, hp, q1, q2, (cell_of hp.bp).1⟩
          have hz2 : o.length ≤ 2000000 := by rw [HI.out]; omega
          have HZ2 := Lib.hid hz2
          clear hz2
          go_wp2_with (first | (at_builtin; refine wpList_own1at HOW.out HZ2.out rfl (.tmp 33) (.tmp 35) rfl x _ rfl rfl rfl ?_; intro v2 w2 ho hg hat; obtain ⟨g2, cap2, hv2, HP2, hc2, hf2, hb2⟩ := HPU.out v2 w2 ho hg hat; subst hv2; clear ho hg hat))
          refine (HIH.out _ _ _ _ (by rw [List.length_append, HI.out]; simp; have := HL.out; have := HI.out; omega) (by
            intro z hz
            rcases List.mem_append.1 hz with hz | hz
            · exact HO.out z hz
            · simp at hz; omega) HP2.out).mono ?_
          rintro e w3 ⟨r, rfl, hr, hyes, hj, hoff⟩
          have HR := Lib.hid hr
          have HY := Lib.hid hyes
          have HJ := Lib.hid (And.intro hj hoff)
          clear hr hyes hj hoff hc2 hf2 hb2 HP2 HPU HOW c0 f0 b0
          obtain ⟨SS, hss⟩ : ∃ l, Gs.shapesF (stOf n S R) (stOf n S2 R2) k (o ++ [x]) = l := ⟨_, rfl⟩
          rw [hss] at HR HY HJ HS
          have HPRE : Hid (∃ m, RES = Gs.partTo (stOf n S R) (stOf n S2 R2) k o (x + 1) ++ m) := by
            show ∃ m, _
            rw [← HRES.out]
            exact Gs.partTo_pre (by omega)
          clear hss HRES
          cases r
          · have HE : Hid (false = (c || RES.isEmpty) ∧ ts ++ Gs.toldOf c RES = ts ++ Gs.partTo (stOf n S R) (stOf n S2 R2) k o x ++ Gs.toldOf c SS) := by
              obtain ⟨m, hm⟩ := HPRE.out
              have h1 := HR.out
              rw [eq_comm, Bool.or_eq_false_iff] at h1
              obtain ⟨rfl, h2⟩ := h1
              have h3 : Gs.partTo (stOf n S R) (stOf n S2 R2) k o x = [] := by
                rcases HM.out with h | h
                · cases h
                · exact h
              have h4 : SS ≠ [] := by rintro rfl; simp at h2
              rw [hm, HS.out, h3, List.nil_append, told_pre h4]
              refine ⟨?_, by simp⟩
              cases SS with
              | nil => exact absurd rfl h4
              | cons a b => rfl
            clear HPRE HS
            go_wp2_with fail
            go_ret
            refine ⟨false, rfl, HE.out.1, (fun h => by cases h), ?_, HJ.out.2⟩
            rw [HE.out.2]
            exact HJ.out.1
          · obtain ⟨v3, hp3⟩ := HY.out rfl
            have HMX : Hid ((c = true ∨ Gs.partTo (stOf n S R) (stOf n S2 R2) k o (x + 1) = []) ∧ ts ++ Gs.partTo (stOf n S R) (stOf n S2 R2) k o x ++ Gs.toldOf c SS = ts ++ Gs.partTo (stOf n S R) (stOf n S2 R2) k o (x + 1)) := by
              have h1 := HR.out
              rw [HS.out]
              cases c
              · have h3 : Gs.partTo (stOf n S R) (stOf n S2 R2) k o x = [] := by
                  rcases HM.out with h | h
                  · cases h
                  · exact h
                have h4 : SS = [] := by
                  cases SS with
                  | nil => rfl
                  | cons a b => simp at h1
                rw [h3, h4]
                exact ⟨.inr rfl, by simp [Gs.toldOf]⟩
              · exact ⟨.inl rfl, by simp [Gs.toldOf]⟩
            rw [HMX.out.2] at hp3
            obtain ⟨g3', cap3, rfl, p1, p2, hp4⟩ := hp3.pop HW.out HTL.out i (by simp [HI.out])
            have htk : (o ++ [x]).take i = o := by rw [← HI.out]; simp
            have hlx : (o ++ [x]).length = i + 1 := by simp [HI.out]
            rw [htk] at hp4
            rw [hlx] at hp3 p1
            obtain ⟨c0, f0, b0⟩ := cell_of hp3.bo
            have HP4 := Lib.hid hp4
            clear hp3 hp4 htk hlx HPRE HS HY HR HJ
            unfold maxLen at p2
            go_wp2_with fail
            go_roundw
            case rel => exact ⟨x + 1, by omega, by go_num, HMX.out.1, _, HP4.out⟩
            case measure => simp [intOf]; omega
      · have HS : Hid (Gs.partTo (stOf n S R) (stOf n S2 R2) k o (x + 1) = Gs.partTo (stOf n S R) (stOf n S2 R2) k o x) := Gs.partTo_no (by rw [HD.out]; rfl)
        go_wp2_with fail
        refine HCO.out.mono ?_; rintro e w1 ⟨rfl, hw1⟩; rw [hw1]; clear hw1 w1
        go_wp2_with fail
        go_roundw
        case rel => exact ⟨x + 1, by omega, by go_num, by rw [HS.out]; exact HM.out, _, by rw [HS.out]; exact HP.out⟩
        case measure => simp [intOf]; omega
    · have hxn : x = n := by omega
      have hltI : ¬ (x : Int) < (n : Int) := by omega
      obtain ⟨hm, v1, hp⟩ := HX.out
      have HE : Hid (true = (c || RES.isEmpty) ∧ Gs.toldOf c RES = Gs.partTo (stOf n S R) (stOf n S2 R2) k o x) := by
        rw [hxn] at hm ⊢
        rw [HRES.out] at hm ⊢
        rcases hm with rfl | h
        · exact ⟨rfl, rfl⟩
        · rw [h]
          exact ⟨by simp, by cases c <;> rfl⟩
      have HP := Lib.hid hp
      clear hm hp HX hxn
      go_wp2_with fail
      go_ret
      exact ⟨true, rfl, HE.out.1, (fun _ => by rw [HE.out.2]; exact ⟨_, HP.out⟩), by rw [HE.out.2]; exact HP.out.j, HP.out.old⟩
theorem place_any (h : Nat) (w0 : World) (hw : w0.heap.size = h) (n : Nat) (S R S2 R2 : ByteArray) (kt : FuncId) (caps : Array Value) (c : Bool) (T : Nat → Prop) (J : List (List Nat) → World → Prop) (hn : n ≤ 8)
    (hS : S.size = n) (hR : R.size = n * n) (hS2 : S2.size = n) (hR2 : R2.size = n * n) (tl : Teller n h kt caps c T J) : ∀ k, PlaceOK h w0 n S R S2 R2 kt caps c T J k
  | 0 => place_zero h w0 n S R S2 R2 kt caps c T J hn tl
  | k + 1 => place_step h w0 hw n S R S2 R2 kt caps c T J hn hS hR hS2 hR2 tl k (place_any h w0 hw n S R S2 R2 kt caps c T J hn hS hR hS2 hR2 tl k)
/-- The world in which place is called first. -/
def shW (w0 : World) (n : Nat) (S R S2 R2 : ByteArray) (kt : FuncId) (caps : Array Value) (u : Value) : World :=
  (((((w0.alloc (.cells #[.int .i64 (n : Int), .string S, .string R] 26)).alloc (.cells #[.int .i64 (n : Int), .string S2, .string R2] 26)).alloc (.cells #[.func (.func kt) #[] caps] 45)).alloc (.cells #[] 3)).alloc (.cells #[.slice (some ⟨w0.heap.size + 3, 0, none⟩) 0 0] 30)).alloc (.cells #[u] 62)
theorem shW_facts (w0 : World) (n : Nat) (S R S2 R2 : ByteArray) (kt : FuncId) (caps : Array Value) (u : Value) :
    Below w0.heap.size w0 (shW w0 n S R S2 R2 kt caps u) ∧ SBlk (shW w0 n S R S2 R2 kt caps u) w0.heap.size n S R ∧ SBlk (shW w0 n S R S2 R2 kt caps u) (w0.heap.size + 1) n S2 R2 ∧
      (shW w0 n S R S2 R2 kt caps u).heap[w0.heap.size + 2]? = some (.cells #[.func (.func kt) #[] caps] 45 (0, 0)) ∧ (shW w0 n S R S2 R2 kt caps u).heap[w0.heap.size + 4]? = some (.cells #[.slice (some ⟨w0.heap.size + 3, 0, none⟩) 0 0] 30 (0, 0)) ∧
      (shW w0 n S R S2 R2 kt caps u).heap[w0.heap.size + 5]? = some (.cells #[u] 62 (0, 0)) ∧ Own (w0.heap.size + 3) (shW w0 n S R S2 R2 kt caps u) (.slice (some ⟨w0.heap.size + 3, 0, none⟩) 0 0) [] := by
  have up : ∀ (w : World) (o : Obj) (b : Nat) (x : Obj), w.heap[b]? = some x → (w.alloc o).heap[b]? = some x := fun w o b x h =>
    (Below.heap_alloc _ _ _ (Array.getElem?_eq_some_iff.1 h).1).trans h
  have up2 : ∀ {w w2 : World} {o : Obj} {b : Nat} {x : Obj}, w.alloc o = w2 → w.heap[b]? = some x → w2.heap[b]? = some x := fun e h => by rw [← e]; exact up _ _ _ _ h
  unfold shW
  generalize h1 : (w0.alloc (.cells #[.int .i64 (n : Int), .string S, .string R] 26)) = w1
  have e1 := heap_alloc_new w0 (.cells #[.int .i64 (n : Int), .string S, .string R] 26)
  have s1 : w1.heap.size = w0.heap.size + 1 := by rw [← h1]; simp
  have b1 : Below w0.heap.size w0 w1 := by rw [← h1]; exact (Below.refl _ _).alloc (Nat.le_refl _) _
  rw [h1] at e1
  generalize h2 : (w1.alloc (.cells #[.int .i64 (n : Int), .string S2, .string R2] 26)) = w2
  have e2 := heap_alloc_new w1 (.cells #[.int .i64 (n : Int), .string S2, .string R2] 26)
  have s2 : w2.heap.size = w0.heap.size + 2 := by rw [← h2]; simp [s1]
  have b2 : Below w0.heap.size w0 w2 := by rw [← h2]; exact b1.alloc (by omega) _
  rw [h2, s1] at e2
  have e1 := up2 h2 e1
  generalize h3 : (w2.alloc (.cells #[.func (.func kt) #[] caps] 45)) = w3
  have e3 := heap_alloc_new w2 (.cells #[.func (.func kt) #[] caps] 45)
  have s3 : w3.heap.size = w0.heap.size + 3 := by rw [← h3]; simp [s2]
  have b3 : Below w0.heap.size w0 w3 := by rw [← h3]; exact b2.alloc (by omega) _
  rw [h3, s2] at e3
  have e1 := up2 h3 e1
  have e2 := up2 h3 e2
  have own := Own.lit0 (w0.heap.size + 3) w3 (by omega)
  generalize h4 : (w3.alloc (.cells #[] 3)) = w4
  have s4 : w4.heap.size = w0.heap.size + 4 := by rw [← h4]; simp [s3]
  have b4 : Below w0.heap.size w0 w4 := by rw [← h4]; exact b3.alloc (by omega) _
  rw [h4, s3] at own
  have e1 := up2 h4 e1
  have e2 := up2 h4 e2
  have e3 := up2 h4 e3
  generalize h5 : (w4.alloc (.cells #[.slice (some ⟨w0.heap.size + 3, 0, none⟩) 0 0] 30)) = w5
  have e5 := heap_alloc_new w4 (.cells #[.slice (some ⟨w0.heap.size + 3, 0, none⟩) 0 0] 30)
  have s5 : w5.heap.size = w0.heap.size + 5 := by rw [← h5]; simp [s4]
  have b5 : Below w0.heap.size w0 w5 := by rw [← h5]; exact b4.alloc (by omega) _
  have own := own.alloc (.cells #[.slice (some ⟨w0.heap.size + 3, 0, none⟩) 0 0] 30)
  rw [h5] at own
  rw [h5, s4] at e5
  have e1 := up2 h5 e1
  have e2 := up2 h5 e2
  have e3 := up2 h5 e3
  have e6 := heap_alloc_new w5 (.cells #[u] 62)
  rw [s5] at e6
  exact ⟨b5.alloc (by omega) _, up _ _ _ _ e1, up _ _ _ _ e2, up _ _ _ _ e3, up _ _ _ _ e5, e6, own.alloc _⟩
/-- What eachShape leaves. -/
def EachP (w0 : World) (c : Bool) (T : Nat → Prop) (J : List (List Nat) → World → Prop) (l : List (List Nat)) (e : Ending) (W' : World) : Prop := (∃ v, e = .returned v) ∧ J (Gs.toldOf c l) W' ∧ Off T w0 W'
set_option maxHeartbeats 2000000 in
theorem eachShape_any (w0 : World) (n : Nat) (S R S2 R2 : ByteArray) (kt : FuncId) (caps : Array Value) (c : Bool) (T : Nat → Prop) (J : List (List Nat) → World → Prop) (hn : n ≤ 8)
    (hS : S.size = n) (hR : R.size = n * n) (hS2 : S2.size = n) (hR2 : R2.size = n * n) (tl : Teller n w0.heap.size kt caps c T J) (hj : J [] w0) :
    Calls Tryz.prog 21 #[strV n S R, strV n S2 R2, .func (.func kt) #[] caps] w0 (EachP w0 c T J (Gs.shapes (stOf n S R) (stOf n S2 R2))) := by
  have HPA := Lib.hid (place_any _ w0 rfl n S R S2 R2 kt caps c T J hn hS hR hS2 hR2 tl n)
  have HF := Lib.hid (shW_facts w0 n S R S2 R2 kt caps .nilFunc)
  have HF2 := Lib.hid (shW_facts w0 n S R S2 R2 kt caps (.func (.func 40) #[] #[.pointer (some ⟨w0.heap.size + 4, 0, none⟩), .pointer (some ⟨w0.heap.size, 0, none⟩), .pointer (some ⟨w0.heap.size + 2, 0, none⟩), .pointer (some ⟨w0.heap.size + 1, 0, none⟩), .pointer (some ⟨w0.heap.size + 5, 0, none⟩)]))
  have HTL := Lib.hid tl
  have HJ := Lib.hid hj
  obtain ⟨W, hW⟩ : ∃ W, shW w0 n S R S2 R2 kt caps .nilFunc = W := ⟨_, rfl⟩
  rw [hW] at HF
  have HSET : Hid (W.setCell ⟨w0.heap.size + 5, 0, none⟩ (.func (.func 40) #[] #[.pointer (some ⟨w0.heap.size + 4, 0, none⟩), .pointer (some ⟨w0.heap.size, 0, none⟩), .pointer (some ⟨w0.heap.size + 2, 0, none⟩), .pointer (some ⟨w0.heap.size + 1, 0, none⟩), .pointer (some ⟨w0.heap.size + 5, 0, none⟩)]) = shW w0 n S R S2 R2 kt caps (.func (.func 40) #[] #[.pointer (some ⟨w0.heap.size + 4, 0, none⟩), .pointer (some ⟨w0.heap.size, 0, none⟩), .pointer (some ⟨w0.heap.size + 2, 0, none⟩), .pointer (some ⟨w0.heap.size + 1, 0, none⟩), .pointer (some ⟨w0.heap.size + 5, 0, none⟩)])) := by
    show _ = _
    rw [← hW]
    unfold shW
    rw [World.setCell_alloc_at (hn := by simp)]
    rfl
  unfold shW at hW
  have HW := Lib.hid hW
  clear hW hS hR hS2 hR2 hj tl
  unfold strV
  go_enter Tryz.func21, Tryz.ntmps21
  go_upto_region 3 with fail
  rw [HW.out]
  simp only [Nat.add_assoc, Nat.reduceAdd]
  obtain ⟨c5, f5, b5⟩ := cell_of HF.out.2.2.2.2.2.1
  have HP : Hid (Ps w0.heap.size w0 n S R S2 R2 kt caps c T J (W.setCell ⟨w0.heap.size + 5, 0, none⟩ (.func (.func 40) #[] #[.pointer (some ⟨w0.heap.size + 4, 0, none⟩), .pointer (some ⟨w0.heap.size, 0, none⟩), .pointer (some ⟨w0.heap.size + 2, 0, none⟩), .pointer (some ⟨w0.heap.size + 1, 0, none⟩), .pointer (some ⟨w0.heap.size + 5, 0, none⟩)])) [] (.slice (some ⟨w0.heap.size + 3, 0, none⟩) 0 0) []) := by
    rw [HSET.out]
    obtain ⟨q1, q2, q3, q4, q5, q6, q7⟩ := HF2.out
    exact ⟨q2, q3, q4, q5, q6, q7, (fun k hk => by injection hk with hk; exact .inl hk.symm), HTL.out.keep _ _ _ (.inr rfl) HJ.out q1, .inr rfl, Off.of_below q1⟩
  have q5 := (cell_of HP.out.bp).1
  have HC := Lib.hid (HPA.out _ _ _ _ (by simp) (by simp) HP.out)
  go_wp2_with fail
  refine HC.out.mono ?_; rintro e w1 ⟨r, rfl, hr, hy, hj, ho⟩
  have HE : Hid (J (Gs.toldOf c (Gs.shapes (stOf n S R) (stOf n S2 R2))) w1 ∧ Off T w0 w1) := ⟨by rw [List.nil_append] at hj; exact hj, ho⟩
  clear hr hy hj ho q5
  go_wp2_with fail
  refine bodyPost_ret (v := .tuple #[]) ?_ rfl ⟨⟨_, rfl⟩, HE.out.1, HE.out.2⟩
  first | rfl | kernel_rfl
theorem set_cell1 {W : World} {b : Nat} {x y : Value} {t : TypeId} (h : W.heap[b]? = some (.cells #[x] t (0, 0))) : (W.setCell ⟨b, 0, none⟩ y).heap[b]? = some (.cells #[y] t (0, 0)) := by simp [World.setCell, Array.getElem?_modify, h]
/-- What SameShape keeps: nothing yet, or the one order that was told. -/
def FoundJ (b : Nat) (ts : List (List Nat)) (W : World) : Prop :=
  (ts = [] ∧ W.heap[b]? = some (.cells #[.slice none 0 0] 30 (0, 0))) ∨ ∃ o g cap, ts = [o] ∧ W.heap[b]? = some (.cells #[.slice (some ⟨g, 0, none⟩) o.length cap] 30 (0, 0)) ∧ NumsAt W (.slice (some ⟨g, 0, none⟩) o.length cap) o
theorem found_teller (n h b : Nat) (hb : b < h) : Teller n h 22 #[.pointer (some ⟨b, 0, none⟩)] false (fun k => k = b) (FoundJ b) := by
  refine ⟨(fun k hk => by rw [hk]; exact hb), (fun args W => by kernel_rfl), ?_, ?_⟩
  · rintro ts o v W hc hJ hv ho hs hon _
    clear hon
    have hts : ts = [] := by
      rcases hc with h | h
      · cases h
      · exact h
    subst hts
    have hz : W.heap[b]? = some (.cells #[.slice none 0 0] 30 (0, 0)) := by
      rcases hJ with ⟨_, h⟩ | ⟨o, g, cap, h, _⟩
      · exact h
      · cases h
    have HO := Lib.hid (Own.lit0 W.heap.size W (Nat.le_refl _))
    have HV := Lib.hid (hv.below ((Below.refl _ _).alloc (Nat.le_refl _) (.cells #[] 3)))
    have HB := Lib.hid ((Below.refl W.heap.size W).alloc (Nat.le_refl _) (.cells #[] 3))
    have HL := Lib.hid (show ([] : List Nat).length + o.length ≤ 2000000 by simp; omega)
    obtain ⟨a, cap, rfl, _, _, _⟩ := hv.view
    obtain ⟨c0, f0, b0⟩ := cell_of hz
    have HZ := Lib.hid hz
    clear hv hz hJ hc
    have HPU : Hid (∀ v1 w1, Own W.heap.size w1 v1 ([] ++ o) → (W.alloc (.cells #[] 3)).grownBy w1 (Value.slice (some ⟨W.heap.size, 0, none⟩) 0 0).ownBlock →
        ∃ g1 cap1, v1 = .slice (some ⟨g1, 0, none⟩) o.length cap1 ∧ w1.cell? ⟨b, 0, none⟩ = some (.slice none 0 0) ∧ w1.frozen? ⟨b, 0, none⟩ = false ∧ Hid (FoundJ b ([] ++ [o]) (w1.setCell ⟨b, 0, none⟩ v1) ∧ Off (fun k => k = b) W (w1.setCell ⟨b, 0, none⟩ v1))) := by
      intro v1 w1 ho1 hg
      have hbw := HB.out.grown hg (by simp) (fun k hk => (HO.out.own.lt k hk).1)
      have hh := (hbw.block b b0).trans HZ.out
      obtain ⟨q1, q2, _⟩ := cell_of hh
      rw [List.nil_append] at ho1
      obtain ⟨g1, cap1, rfl, k1, k2, k3, k4, _⟩ := ho1.cells
      refine ⟨g1, cap1, rfl, q1, q2, .inr ⟨o, g1, cap1, rfl, set_cell1 hh, ?_⟩, ?_⟩
      · exact ho1.nums.kept (fun k hk _ => Below.heap_setCell _ _ _ _ (by
        have hk : g1 = k := by injection hk
        simp; omega)) (by simp)
      · exact ⟨hbw.os, hbw.tape, hbw.output, by simpa using hbw.size, fun k hk hn => (Below.heap_setCell _ _ _ _ (by simpa using hn)).trans (hbw.block k hk)⟩
    go_enter Tryz.func22, Tryz.ntmps22
    go_wp2_with (first | (at_builtin; refine wpList_ownAll HO.out HV.out HL.out rfl (.tmp 4) (.tmp 5) rfl rfl rfl ?_; intro v1 w1 ho hg; obtain ⟨g1, cap1, hv1, hc1, hf1, HF⟩ := HPU.out v1 w1 ho hg; subst hv1; clear ho hg))
    go_ret
    exact ⟨rfl, HF.out.1, HF.out.2⟩
  · rintro ts W W' hc hJ hbl
    have hts : ts = [] := by
      rcases hc with h | h
      · cases h
      · exact h
    rcases hJ with ⟨_, h⟩ | ⟨o, g, cap, h, _⟩
    · exact .inl ⟨hts, (hbl.block b hb).trans h⟩
    · rw [hts] at h; cases h
/-- Whether two structures have the same shape. -/
def ssB (n : Int) (S R : ByteArray) (m : Int) (S2 R2 : ByteArray) : Bool := validB n S R && validB m S2 R2 && decide (n = m) && !(Gs.shapes (stOf n.toNat S R) (stOf m.toNat S2 R2)).isEmpty
/-- Two structures in their boxes. -/
structure Bx2 (w wr : World) (n : Int) (S R : ByteArray) (m : Int) (S2 R2 : ByteArray) : Prop where
  a : SBlk wr w.heap.size n S R
  b : SBlk wr (w.heap.size + 1) m S2 R2
  old : Below w.heap.size w wr
theorem Bx2.below {w wr w' : World} {n m : Int} {S R S2 R2 : ByteArray} (h : Bx2 w wr n S R m S2 R2) (hb : Below wr.heap.size wr w') : Bx2 w w' n S R m S2 R2 := by
  have h1 := h.b.cells.2.2.2.2.2.2
  exact ⟨h.a.below hb (by omega), h.b.below hb h1, h.old.trans (hb.mono (by omega))⟩
theorem Bx2.new (w : World) (n : Int) (S R : ByteArray) (m : Int) (S2 R2 : ByteArray) : Bx2 w (boxS (boxS w n S R) m S2 R2) n S R m S2 R2 := by
  refine ⟨(boxS_SBlk w n S R).below (boxS_below (boxS w n S R) m S2 R2) (by rw [boxS_size]; omega), ?_, (boxS_below w n S R).trans ((boxS_below _ _ _ _).mono (by rw [boxS_size]; omega))⟩
  have h := boxS_SBlk (boxS w n S R) m S2 R2
  rw [boxS_size] at h
  exact h
theorem nat_of_valid {n : Int} {S R : ByteArray} (h : validB n S R = true) : ∃ m : Nat, n = (m : Int) := by
  have h0 := h
  unfold validB inB at h0
  simp at h0
  exact Int.eq_ofNat_of_zero_le (by omega)
theorem ret_sv {v : Value} {x y : Bool} (h : x = y) : Ending.returned (.tuple #[v, .bool x]) = .returned (.tuple #[v, .bool y]) := by rw [h]
set_option maxHeartbeats 2000000 in
theorem SameShape_any (n : Int) (S R : ByteArray) (m : Int) (S2 R2 : ByteArray) (hS : S.size ≤ 9223372036854775807) (hR : R.size ≤ 9223372036854775807) (hS2 : S2.size ≤ 9223372036854775807) (hR2 : R2.size ≤ 9223372036854775807) (w : World) :
    Calls Tryz.prog 8 #[strV n S R, strV m S2 R2] w fun e w' => (∃ v, e = .returned (.tuple #[v, .bool (ssB n S R m S2 R2)])) ∧ Below w.heap.size w w' := by
  have HIS := Lib.hid (fun w => isStructure_any n S R w hS hR)
  have HIS2 := Lib.hid (fun w => isStructure_any m S2 R2 w hS2 hR2)
  have HB := Lib.hid (Bx2.new w n S R m S2 R2)
  unfold boxS at HB
  obtain ⟨RES, hres⟩ : ∃ z, ssB n S R m S2 R2 = z := ⟨_, rfl⟩
  rw [hres]
  obtain ⟨s0, s1, s2, _, _, _, hl⟩ := HB.out.a.cells
  obtain ⟨t0, t1, t2, _, _, _, hl'⟩ := HB.out.b.cells
  obtain ⟨W, hW⟩ : ∃ W, (w.alloc (.cells #[.int .i64 n, .string S, .string R] 26)).alloc (.cells #[.int .i64 m, .string S2, .string R2] 26) = W := ⟨_, rfl⟩
  rw [hW] at HB s0 s1 s2 hl t0 t1 t2 hl'
  have HW := Lib.hid hW
  clear hW
  cases hv : validB n S R
  · have HE : Hid (RES = false) := by show _ = _; rw [← hres]; unfold ssB; rw [hv]; rfl
    rw [hv] at HIS
    clear hv hres
    unfold strV at HIS
    unfold strV
    go_enter Tryz.func8, Tryz.ntmps8
    go_upto_region 1 with fail
    rw [HW.out]
    go_wp2_with fail
    refine (HIS.out _).mono ?_; rintro e w1 ⟨rfl, hb1⟩
    have HB1 := Lib.hid (HB.out.below hb1)
    clear hb1
    go_wp2_with fail
    go_ret2
    exact ⟨⟨.slice none 0 0, ret_sv HE.out.symm⟩, HB1.out.old⟩
  · cases hv2 : validB m S2 R2
    · have HE : Hid (RES = false) := by show _ = _; rw [← hres]; unfold ssB; rw [hv, hv2]; rfl
      rw [hv] at HIS
      rw [hv2] at HIS2
      clear hv hv2 hres
      unfold strV at HIS HIS2
      unfold strV
      go_enter Tryz.func8, Tryz.ntmps8
      go_upto_region 1 with fail
      rw [HW.out]
      go_wp2_with fail
      refine (HIS.out _).mono ?_; rintro e w1 ⟨rfl, hb1⟩
      have HB1 := Lib.hid (HB.out.below hb1)
      clear hb1 s0 s1 s2 hl t0 t1 t2 hl'
      obtain ⟨t0, t1, t2, _, _, _, hl'⟩ := HB1.out.b.cells
      go_wp2_with fail
      refine (HIS2.out _).mono ?_; rintro e w2 ⟨rfl, hb2⟩
      have HB2 := Lib.hid (HB1.out.below hb2)
      clear hb2
      go_wp2_with fail
      go_ret2
      exact ⟨⟨.slice none 0 0, ret_sv HE.out.symm⟩, HB2.out.old⟩
    · rw [hv] at HIS
      rw [hv2] at HIS2
      unfold strV at HIS HIS2
      by_cases hnm : n = m
      · subst hnm
        obtain ⟨k, rfl⟩ := nat_of_valid hv
        obtain ⟨h1, h8, hSS, hRR, _, _⟩ := valid_is hv
        obtain ⟨_, _, hSS2, hRR2, _, _⟩ := valid_is hv2
        have HE : Hid (RES = !(Gs.shapes (stOf k S R) (stOf k S2 R2)).isEmpty) := by show _ = _; rw [← hres]; unfold ssB; rw [hv, hv2]; simp
        have HES := Lib.hid (fun w0 kt caps T J tl hj => eachShape_any w0 k S R S2 R2 kt caps false T J h8 hSS hRR hSS2 hRR2 tl hj)
        unfold strV at HES
        clear hv hv2 hres hSS hRR hSS2 hRR2
        unfold strV
        go_enter Tryz.func8, Tryz.ntmps8
        go_upto_region 1 with fail
        rw [HW.out]
        go_wp2_with fail
        refine (HIS.out _).mono ?_; rintro e w1 ⟨rfl, hb1⟩
        have HB1 := Lib.hid (HB.out.below hb1)
        clear hb1 s0 s1 s2 hl t0 t1 t2 hl'
        obtain ⟨t0, t1, t2, _, _, _, hl'⟩ := HB1.out.b.cells
        go_wp2_with fail
        refine (HIS2.out _).mono ?_; rintro e w2 ⟨rfl, hb2⟩
        have HB2 := Lib.hid (HB1.out.below hb2)
        clear hb2 t0 t1 t2 hl'
        obtain ⟨s0, s1, s2, _, _, _, hl⟩ := HB2.out.a.cells
        obtain ⟨t0, t1, t2, _, _, _, hl'⟩ := HB2.out.b.cells
        have hal : Below w2.heap.size w2 (w2.alloc (.cells #[.slice none 0 0] 30)) := (Below.refl _ _).alloc (Nat.le_refl _) _
        have HB3 := Lib.hid (HB2.out.below hal)
        have HJ : Hid (FoundJ w2.heap.size [] (w2.alloc (.cells #[.slice none 0 0] 30))) := .inl ⟨rfl, heap_alloc_new _ _⟩
        have HCC := Lib.hid (HES.out (w2.alloc (.cells #[.slice none 0 0] 30)) _ _ _ _ (found_teller _ _ w2.heap.size (by simp)) HJ.out)
        have HZ : Hid (w.heap.size ≤ w2.heap.size) := HB2.out.old.size
        clear hal HJ HES
        go_upto_region 4 with fail
        obtain ⟨u0, u1, u2, _, _, _, hm⟩ := HB3.out.a.cells
        obtain ⟨x0, x1, x2, _, _, _, hm'⟩ := HB3.out.b.cells
        go_wp2_with fail
        refine HCC.out.mono ?_; rintro e w3 ⟨⟨v, rfl⟩, hj, hoff⟩
        have HB4 : Hid (Below w.heap.size w w3) := HB3.out.old.trans (hoff.below HB3.out.old.size (fun b hb => by rw [hb]; exact HZ.out))
        obtain ⟨ls, hls⟩ : ∃ l, Gs.shapes (stOf k S R) (stOf k S2 R2) = l := ⟨_, rfl⟩
        rw [hls] at HE hj
        clear hoff hls s0 s1 s2 hl t0 t1 t2 hl' u0 u1 u2 hm x0 x1 x2 hm'
        rcases hj with ⟨h0, hc⟩ | ⟨o, g, cap, h0, hc, _⟩
        · have hl0 : ls = [] := by
            cases ls with
            | nil => rfl
            | cons a b => cases h0
          have HRF : Hid (RES = false) := by show _ = _; rw [HE.out, hl0]; rfl
          obtain ⟨c0, _, _⟩ := cell_of hc
          clear h0 hl0 hc HE
          go_wp2_with fail
          go_region
          all_goals
            go_wp2_with fail
            go_ret2
            exact ⟨⟨.slice none 0 0, ret_sv HRF.out.symm⟩, HB4.out.drew⟩
        · have HRF : Hid (RES = true) := by
            show _ = _; rw [HE.out]
            cases ls with
            | nil => cases h0
            | cons a b => rfl
          obtain ⟨c0, _, _⟩ := cell_of hc
          clear h0 hc HE
          go_wp2_with fail
          go_region
          all_goals
            go_wp2_with fail
            go_ret2
            exact ⟨⟨.slice (some ⟨g, 0, none⟩) o.length cap, ret_sv HRF.out.symm⟩, HB4.out.drew⟩
      · have HE : Hid (RES = false) := by show _ = _; rw [← hres]; unfold ssB; rw [hv, hv2]; simp [hnm]
        have hnB : (n != m) = true := by simpa using hnm
        clear hv hv2 hres
        unfold strV
        go_enter Tryz.func8, Tryz.ntmps8
        go_upto_region 1 with fail
        rw [HW.out]
        go_wp2_with fail
        refine (HIS.out _).mono ?_; rintro e w1 ⟨rfl, hb1⟩
        have HB1 := Lib.hid (HB.out.below hb1)
        clear hb1 s0 s1 s2 hl t0 t1 t2 hl'
        obtain ⟨t0, t1, t2, _, _, _, hl'⟩ := HB1.out.b.cells
        go_wp2_with fail
        refine (HIS2.out _).mono ?_; rintro e w2 ⟨rfl, hb2⟩
        have HB2 := Lib.hid (HB1.out.below hb2)
        clear hb2 t0 t1 t2 hl'
        obtain ⟨s0, s1, s2, _, _, _, hl⟩ := HB2.out.a.cells
        obtain ⟨t0, t1, t2, _, _, _, hl'⟩ := HB2.out.b.cells
        go_wp2_with fail
        go_ret2
        exact ⟨⟨.slice none 0 0, ret_sv HE.out.symm⟩, HB2.out.old⟩
end Go.Proofs.YtfhogenjpepfnaaGreatDoor
