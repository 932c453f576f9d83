/- Contracts of the program's functions and what they compute: part 33. Conditions: those that each theorem states. -/
import Derived.Test.YtihomcedaaiidaaGreatDoorP55n2
import Derived.Test.YtihomcedaaiidaaGreatDoorP55n32
import Derived.Test.YtihomcedaaiidaaGreatDoorP55n12
import Derived.Test.YtihomcedaaiidaaGreatDoorP55n6
import Derived.Test.YtihomcedaaiidaaGreatDoorP55n7
import Derived.Test.YtihomcedaaiidaaGreatDoorP55n26
import Derived.Test.YtihomcedaaiidaaGreatDoorP55n20
import Derived.Test.YtihomcedaaiidaaGreatDoorP55n25
import Derived.Test.YtihomcedaaiidaaGreatDoorP55n30
import Derived.Deep.RegionLaw
import Derived.Deep.AppendLies
import Derived.OwnWalk
import Derived.IntWalk
import Derived.Deep.QuietTactic
import Derived.BigQuiet
namespace Go.Proofs.YtihomcedaaiidaaGreatDoor
open Go.RowKit
set_option linter.unusedVariables false
set_option maxRecDepth 100000
/-- All numbers of a slice are appended to one of the call's own. -/
theorem wpList_ownIAll {ops : Array Oper} {rest : List Oper} {o : Oper} {a : Act} {Q : Exit → Act → World → Prop} {B : Nat} {w : World} {v u : Value} {L M : List Int}
    (hown : OwnI B w v L) (hM : IntsAt w u M) (h0 : 0 < M.length) (hL : L.length + M.length ≤ 2000000) (hgd : o.guard = none) (s x : Operand)
    (ho : o.op = .call { callee := .builtin .append, args := #[s, x], argTypes := #[37, 37] })
    (hs : a.eval s = v) (hx : a.eval x = u)
    (h : ∀ v' w', OwnI B w' v' (L ++ M) → w.grownBy w' v.ownBlock → wpList Tryz.prog ops Q rest (a.put o.dst v') w') :
    wpList Tryz.prog ops Q (o :: rest) a w := by
  obtain ⟨i, hi, hz, h1, h2⟩ := info_parts natInfo3
  obtain ⟨aa, cap, rfl, m1, m2, m3⟩ := hM.view
  obtain ⟨g, oo, rfl, mg, mc⟩ := m3 h0
  refine wpList_append_own _ hgd s x 37 ho B 3 i (.int .i64 0) 1 8 Tryz.underlying37 hi hz h1 h2 rfl (by decide) v L.length _ hs hown.own ⟨g, oo, none⟩ M.length cap (M.map (Value.int .i64)) hx (by simp) ?_ ?_ ?_ ?_ hown.low ?_
  · intro j y hj
    have hj' : j < M.length := by
      have := (List.getElem?_eq_some_iff.1 hj).1
      simpa using this
    have e : (⟨g, oo, none⟩ : Addr).add j = ⟨g, oo + j, none⟩ := by
      unfold Addr.add
      split <;> simp_all
    rw [e, mc j hj']
    simpa [hj'] using hj
  · intro y hy
    obtain ⟨n, _, rfl⟩ := List.mem_map.1 hy
    rfl
  · unfold maxLen; omega
  · omega
  · intro v' w' h2 h3 h4
    refine h v' w' ⟨?_, ?_, ?_⟩ h3
    · simpa using h2
    · intro e
      exact hown.ne (h4.1 e).1
    · have := h3.size
      have := hown.low
      omega
theorem put_end {L : List Int} {i : Nat} {x : Int} {w w' : World} {v' : Value} (ho : OwnI w.heap.size w' v' ([] ++ L)) (hg : (w.alloc (.cells #[] 3)).grownBy w' (Value.slice (some ⟨w.heap.size, 0, none⟩) 0 0).ownBlock) (hi : i < L.length) :
    ∃ g q, v' = .slice (some ⟨g, 0, none⟩) L.length q ∧ w'.cell? ⟨g, i, none⟩ = some (.int .i64 (L.getD i 0)) ∧ w'.frozen? ⟨g, i, none⟩ = false ∧ Hid (ListI (L.set i x) w (.returned (.slice (some ⟨g, 0, none⟩) L.length q)) (w'.setCell ⟨g, i, none⟩ (.int .i64 x))) := by
  rw [List.nil_append] at ho
  obtain ⟨g, q, rfl, k1, k2, k3, k4, k5⟩ := ho.cells
  have hb : Below w.heap.size w w' := ((Below.refl _ _).alloc (Nat.le_refl _) _).grown hg (by simp) (fun k hk => by
    have : w.heap.size = k := by simpa [Value.ownBlock] using hk
    omega)
  refine ⟨g, q, rfl, k5 i hi, ho.frozen rfl i, _, rfl, ho.setI rfl i x, hb.setCell k1 _⟩
end Go.Proofs.YtihomcedaaiidaaGreatDoor

namespace Go.Proofs.YtihomcedaaiidaaGreatDoor
open Go.RowKit
set_option linter.unusedVariables false
/-- The atoms of an element and those before it, as far as k. -/
def part (a : Gs.St) (la : List Nat) (x k : Nat) : List UInt8 := Gs.bitU (a.s x) :: ((la.take k).flatMap fun y => [Gs.bitU (decide (x = y)), Gs.bitU (a.r x y), Gs.bitU (a.r y x)])
end Go.Proofs.YtihomcedaaiidaaGreatDoor

namespace Go.Proofs.YtihomcedaaiidaaGreatDoor
open Go.RowKit
set_option linter.unusedVariables false
set_option maxRecDepth 100000
/-- The variables of a set, in order: those below k. -/
def vtL (s k : Nat) : ByteArray := ⟨(((List.range k).filter fun i => s.testBit i).map fun i => UInt8.ofNat (97 + i)).toArray⟩
theorem vtL_size (s k : Nat) : (vtL s k).size ≤ k := by
  show ((((List.range k).filter fun i => s.testBit i).map fun i => UInt8.ofNat (97 + i)).toArray).size ≤ k
  rw [List.size_toArray, List.length_map]
  exact Nat.le_trans (List.length_filter_le _ _) (by simp)
theorem ex4v {k : Nat} (hk : k < 4) : (⟨#[97, 98, 99, 100]⟩ : ByteArray).extract k (k + 1) = ⟨#[UInt8.ofNat (97 + k)]⟩ := by
  match k, hk with
  | 0, _ => rfl
  | 1, _ => rfl
  | 2, _ => rfl
  | 3, _ => rfl
theorem varsText_is (s : Nat) (hs : s < 16) (w : World) : Calls Tryz.prog 40 #[.int .i64 (s : Int)] w fun e w' => e = .returned (.string (vtL s 4)) ∧ w' = w := by
  go_enter Tryz.func40, Tryz.ntmps40
  go_wp2_with fail
  go_loop [5, 3] (fun q v => ∃ i : Nat, i ≤ 4 ∧ q = .int .i64 (i : Int) ∧ ∃ t : ByteArray, t.size ≤ i ∧ Hid (t = vtL s i) ∧ v = .string t) (fun q _ => 4 - (intOf q).toNat)
  case atStart => exact ⟨0, by omega, rfl, _, Nat.le_refl _, rfl, rfl⟩
  case round =>
    obtain ⟨i, hi, rfl, t, ht, HT, rfl⟩ := hrel
    by_cases h4 : i < 4
    · have hx : ((⟨#[97, 98, 99, 100]⟩ : ByteArray).extract i (i + 1)).size = 1 := by rw [ex4v h4]; rfl
      obtain ⟨j, hj⟩ : ∃ j, j = i + 1 := ⟨_, rfl⟩
      have b0 : (bits BinOp.and IntKind.i64 0 1 == 1) = false := by decide
      have b1 : (bits BinOp.and IntKind.i64 1 1 == 1) = true := by decide
      have b2 : (bits BinOp.and IntKind.i64 2 1 == 1) = false := by decide
      have b3 : (bits BinOp.and IntKind.i64 3 1 == 1) = true := by decide
      have b4 : (bits BinOp.and IntKind.i64 4 1 == 1) = false := by decide
      have b5 : (bits BinOp.and IntKind.i64 5 1 == 1) = true := by decide
      have b6 : (bits BinOp.and IntKind.i64 6 1 == 1) = false := by decide
      have b7 : (bits BinOp.and IntKind.i64 7 1 == 1) = true := by decide
      have b8 : (bits BinOp.and IntKind.i64 8 1 == 1) = false := by decide
      have b9 : (bits BinOp.and IntKind.i64 9 1 == 1) = true := by decide
      have b10 : (bits BinOp.and IntKind.i64 10 1 == 1) = false := by decide
      have b11 : (bits BinOp.and IntKind.i64 11 1 == 1) = true := by decide
      have b12 : (bits BinOp.and IntKind.i64 12 1 == 1) = false := by decide
      have b13 : (bits BinOp.and IntKind.i64 13 1 == 1) = true := by decide
      have b14 : (bits BinOp.and IntKind.i64 14 1 == 1) = false := by decide
      have b15 : (bits BinOp.and IntKind.i64 15 1 == 1) = true := by decide
      rcases (by omega : s = 0 ∨ s = 1 ∨ s = 2 ∨ s = 3 ∨ s = 4 ∨ s = 5 ∨ s = 6 ∨ s = 7 ∨ s = 8 ∨ s = 9 ∨ s = 10 ∨ s = 11 ∨ s = 12 ∨ s = 13 ∨ s = 14 ∨ s = 15) with rfl | rfl | rfl | rfl | rfl | rfl | rfl | rfl | rfl | rfl | rfl | rfl | rfl | rfl | rfl | rfl <;>
      rcases (by omega : i = 0 ∨ i = 1 ∨ i = 2 ∨ i = 3) with rfl | rfl | rfl | rfl
      all_goals
        go_wp2_with fail
        go_round
        case rel =>
          first
          | exact ⟨j, by omega, by subst hj; rfl, t, by omega, (by show _ = _; rw [HT.out]; subst hj; rfl), rfl⟩
          | exact ⟨j, by omega, by subst hj; rfl, _, by rw [ByteArray.size_append, hx]; omega, (by show _ = _; rw [HT.out]; subst hj; rfl), rfl⟩
        case measure => simp [intOf]
    · obtain rfl : i = 4 := by omega
      have HE := HT
      go_wp2_with fail
      go_ret
      exact ⟨by rw [HE.out]; rfl, rfl⟩
/-- How many variables a formula has. -/
theorem WidthOf_is (f : ByteArray) (φ : Fm.T) (hr : readB f = some φ) (hf : f.size ≤ 9223372036854775807) (w : World) :
    Calls Tryz.prog 14 #[.string f] w fun e w' => e = .returned (.int .i64 ((vtL (Fm.vars φ) 4).size : Int)) ∧ Below w.heap.size w w' := by
  have HP := Lib.hid (fun w => parseFormula_any f w hf)
  rw [hr] at HP
  have hlt := Fm.vars_lt φ
  have HV := Lib.hid (fun w => varsText_is (Fm.vars φ) hlt w)
  obtain ⟨fr, hfr⟩ : ∃ fr, Fm.vars φ = fr := ⟨_, rfl⟩
  rw [hfr] at HV hlt
  rw [hfr]
  have HFR := Lib.hid hfr
  clear hr hfr
  generalize vtL fr 4 = VT at *
  go_enter Tryz.func14, Tryz.ntmps14
  go_wp2_with fail
  refine (HP.out _).mono ?_; rintro e w1 ⟨hb, ⟨h, _⟩ | ⟨φ', p, h, rfl, ht⟩⟩
  · cases h
  · obtain rfl := Option.some.inj h
    have HB := Lib.hid hb; clear hb h
    obtain ⟨v, u, qs, nd, _⟩ := ht.node
    have c3 := nd.cells.2.2.2.2.1
    rw [HFR.out] at c3
    clear nd ht
    unfold ptrV
    go_wp2_with fail
    refine (HV.out _).mono ?_; rintro _ w2 ⟨rfl, hw2⟩; rw [hw2]; clear hw2 w2
    go_wp2_with fail
    go_ret
    exact ⟨rfl, HB.out⟩
end Go.Proofs.YtihomcedaaiidaaGreatDoor

namespace Go.Proofs.YtihomcedaaiidaaGreatDoor
open Go.RowKit
set_option linter.unusedVariables false
set_option maxRecDepth 100000
set_option maxHeartbeats 1000000 in
theorem told_show (w0 : World) (a : DS) (φ : Fm.T) (hr : readB a.f = some φ) : ToldOK w0 ⟨#[115, 104, 111, 119]⟩ a (shB φ) := by
  intro W d hd0 hB hD
  have h := (Fm.read_iff (s := a.f.data.toList)).1 hr
  have hfz : a.f.size ≤ 4000 := by
    have : a.f.size = a.f.data.toList.length := by simp
    omega
  have HSH := Lib.hid (fun w => ShowFormula_any a.f φ hr (by omega) w)
  generalize shB φ = E at *
  obtain ⟨c0, c1, c2, c3, c4, c5, c6, cf⟩ := hD.cells
  have HD := Lib.hid hD
  clear cf hD hB hr hfz h
  generalize hb : a = b at HD ⊢
  obtain ⟨n1, S1, R1, m1, T1, U1, fo⟩ := a
  simp only at *
  clear hb
  go_enter Tryz.func110, Tryz.ntmps110
  go_wp2_with fail
  refine (HSH.out _).mono ?_; rintro e w1 ⟨rfl, hb⟩
  have HD1 : Hid (DeskAt w1 d b ∧ Off (fun x => x = d) W w1) := ⟨HD.out.below hb, Off.of_below hb⟩
  clear hb HD
  go_wp2_with fail
  go_ret
  exact ⟨rfl, HD1.out⟩
theorem run_show (w0 : World) (a : DS) (φ : Fm.T) (hr : readB a.f = some φ) : RunOK w0 ⟨#[115, 104, 111, 119]⟩ a a (shB φ) :=
  run_plain w0 _ (by decide) a a _ (plain_show w0 a _ (told_show w0 a φ hr))
set_option maxHeartbeats 1000000 in
theorem told_rank (w0 : World) (ht : Tab w0) (a : DS) (r k : Nat) (hr : r ≤ 1000000) (hk : k ≤ 4) (HR0 : ∀ w, Calls Tryz.prog 13 #[.string a.f] w fun e w' => e = .returned (.int .i64 (r : Int)) ∧ Below w.heap.size w w') (HK0 : ∀ w, Calls Tryz.prog 14 #[.string a.f] w fun e w' => e = .returned (.int .i64 (k : Int)) ∧ Below w.heap.size w w') :
    ToldOK w0 ⟨#[114, 97, 110, 107]⟩ a (numsB [r, k]) := by
  intro W d hd0 hB hD
  have HT : Hid (Tab W) := ht.below hB (Nat.le_refl _)
  have HRK := Lib.hid (fun s : Since W => HR0 s.w)
  have HWK := Lib.hid (fun s : Since W => HK0 s.w)
  have HI1 := Lib.hid (fun s : Since W => itoa_any (r : Int) s.w (by omega) (by omega) (HT.out.below s.below (Nat.le_refl _)))
  have HI2 := Lib.hid (fun s : Since W => itoa_any (k : Int) s.w (by omega) (by omega) (HT.out.below s.below (Nat.le_refl _)))
  have hz := itoS_size (r : Int) (by omega) (by omega)
  have hz2 := itoS_size (k : Int) (by omega) (by omega)
  have HE : Hid (itoS (r : Int) ++ ⟨#[32]⟩ ++ itoS (k : Int) = numsB [r, k]) := by
    show _ = numsB [r, k]
    unfold numsB fmtRes
    rw [if_neg (by simp)]
    have := fmtB_snoc [(r : Int)] (k : Int) (by simp)
    rw [fmtB_one] at this
    exact this.symm
  have hz3 : (itoS (r : Int) ++ (⟨#[32]⟩ : ByteArray)).size ≤ 30 := by rw [ByteArray.size_append]; show (itoS (r : Int)).size + 1 ≤ _; omega
  rw [← HE.out]
  obtain ⟨c0, c1, c2, c3, c4, c5, c6, cf⟩ := hD.cells
  have HD := Lib.hid hD
  clear cf hD hB HR0 HK0 HE
  obtain ⟨A, hA⟩ : ∃ A, itoS (r : Int) = A := ⟨_, rfl⟩
  obtain ⟨C, hC⟩ : ∃ A, itoS (k : Int) = A := ⟨_, rfl⟩
  rw [hA] at HI1 hz hz3 ⊢
  rw [hC] at HI2 hz2 ⊢
  clear hA hC
  obtain ⟨ri, hri⟩ : ∃ x : Int, (r : Int) = x := ⟨_, rfl⟩
  obtain ⟨ki, hki⟩ : ∃ x : Int, (k : Int) = x := ⟨_, rfl⟩
  rw [hri] at HRK HI1
  rw [hki] at HWK HI2
  generalize hb : a = b at HD ⊢
  obtain ⟨n1, S1, R1, m1, T1, U1, fo⟩ := a
  simp only at *
  clear hb
  have C6 := fun s => Since.cell c6 s
  go_enter Tryz.func110, Tryz.ntmps110
  go_upto_region 11 with fail
  refine wp_region_since (by kernel_rfl) (by kernel_rfl) ?_
  repeat (go_big_quiet_step (first | (with_reducible exact Since.call (HRK.out _)) | (with_reducible exact Since.call (HWK.out _)) | (with_reducible exact Since.call (HI1.out _)) | (with_reducible exact Since.call (HI2.out _)) | (with_reducible exact C6 _)))
  refine wpQuiet_nil ?_
  intro w1 hb
  have HD1 : Hid (DeskAt w1 d b ∧ Off (fun x => x = d) W w1) := ⟨HD.out.below hb, Off.of_below hb⟩
  clear hb HD
  go_wp2_with fail
  go_ret
  exact ⟨rfl, HD1.out⟩
theorem run_rank (w0 : World) (ht : Tab w0) (a : DS) (r k : Nat) (hr : r ≤ 1000000) (hk : k ≤ 4) (HR0 : ∀ w, Calls Tryz.prog 13 #[.string a.f] w fun e w' => e = .returned (.int .i64 (r : Int)) ∧ Below w.heap.size w w') (HK0 : ∀ w, Calls Tryz.prog 14 #[.string a.f] w fun e w' => e = .returned (.int .i64 (k : Int)) ∧ Below w.heap.size w w') :
    RunOK w0 ⟨#[114, 97, 110, 107]⟩ a a (numsB [r, k]) :=
  run_plain w0 _ (by decide) a a _ (plain_rank w0 a _ (told_rank w0 ht a r k hr hk HR0 HK0))
set_option maxHeartbeats 1000000 in
theorem plain_push (w0 : World) (a : DS) (g : ByteArray) (HP0 : ∀ w, Calls Tryz.prog 7 #[.string a.f] w fun e w' => e = .returned (.tuple #[.string g, .bool true]) ∧ Below w.heap.size w w') : PlainOK w0 ⟨#[112, 117, 115, 104]⟩ a { a with f := g } g := by
  intro W d hd0 hB hD
  have HP := Lib.hid HP0
  have HW := Lib.hid (fun W hD => rewrite_yes g a W d hD)
  obtain ⟨c0, c1, c2, c3, c4, c5, c6, cf⟩ := hD.cells
  have HD := Lib.hid hD
  clear cf hD hB HP0
  obtain ⟨b, hb⟩ : ∃ b : DS, { a with f := g } = b := ⟨_, rfl⟩
  rw [hb] at HW ⊢
  clear hb
  go_enter Tryz.func70, Tryz.ntmps70
  go_wp2_with fail
  refine (HP.out _).mono ?_; rintro e w1 ⟨rfl, hb⟩
  have HD1 : Hid (DeskAt w1 d a ∧ Off (fun x => x = d) W w1) := ⟨HD.out.below hb, Off.of_below hb⟩
  clear hb HD c0 c1 c2 c3 c4 c5 c6
  go_wp2_with fail
  refine (HW.out _ HD1.out.1).mono ?_; rintro e w2 ⟨rfl, hd2, ho2⟩
  have HD2 : Hid (DeskAt w2 d b ∧ Off (fun x => x = d) W w2) := ⟨hd2, HD1.out.2.trans ho2 (fun _ h => .inl h)⟩
  clear hd2 ho2
  go_wp2_with fail
  go_ret
  exact ⟨rfl, HD2.out⟩
set_option maxHeartbeats 1000000 in
theorem plain_reverse (w0 : World) (a : DS) (g : ByteArray) (HP0 : ∀ w, Calls Tryz.prog 9 #[.string a.f] w fun e w' => e = .returned (.tuple #[.string g, .bool true]) ∧ Below w.heap.size w w') : PlainOK w0 ⟨#[114, 101, 118, 101, 114, 115, 101]⟩ a { a with f := g } g := by
  intro W d hd0 hB hD
  have HP := Lib.hid HP0
  have HW := Lib.hid (fun W hD => rewrite_yes g a W d hD)
  obtain ⟨c0, c1, c2, c3, c4, c5, c6, cf⟩ := hD.cells
  have HD := Lib.hid hD
  clear cf hD hB HP0
  obtain ⟨b, hb⟩ : ∃ b : DS, { a with f := g } = b := ⟨_, rfl⟩
  rw [hb] at HW ⊢
  clear hb
  go_enter Tryz.func70, Tryz.ntmps70
  go_wp2_with fail
  refine (HP.out _).mono ?_; rintro e w1 ⟨rfl, hb⟩
  have HD1 : Hid (DeskAt w1 d a ∧ Off (fun x => x = d) W w1) := ⟨HD.out.below hb, Off.of_below hb⟩
  clear hb HD c0 c1 c2 c3 c4 c5 c6
  go_wp2_with fail
  refine (HW.out _ HD1.out.1).mono ?_; rintro e w2 ⟨rfl, hd2, ho2⟩
  have HD2 : Hid (DeskAt w2 d b ∧ Off (fun x => x = d) W w2) := ⟨hd2, HD1.out.2.trans ho2 (fun _ h => .inl h)⟩
  clear hd2 ho2
  go_wp2_with fail
  go_ret
  exact ⟨rfl, HD2.out⟩
end Go.Proofs.YtihomcedaaiidaaGreatDoor
