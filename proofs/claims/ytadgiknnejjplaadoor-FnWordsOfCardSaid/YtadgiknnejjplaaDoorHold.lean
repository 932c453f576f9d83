/- The program's isTrue: whether a formula is true of elements, by what is known or found. Conditions: the structure is valid, the elements are its own. -/
import Derived.Test.YtadgiknnejjplaaDoorHold0
import Derived.Test.YtadgiknnejjplaaDoorFmFree2
import Derived.Test.YtadgiknnejjplaaDoorNode
import Derived.Deep.DeepCutAuto
namespace Go.Proofs.YtadgiknnejjplaaDoor
open Go.RowKit
set_option linter.unusedVariables false

theorem env_index0 (e : Fm.Env) (w : World) :
    (Instr.index 80 (.agg #[.int .i64 ((e 0 : Nat) : Int), .int .i64 ((e 1 : Nat) : Int), .int .i64 ((e 2 : Nat) : Int), .int .i64 ((e 3 : Nat) : Int)]) (.int .i64 0)).run Tryd.prog w = .ok (.int .i64 ((e 0 : Nat) : Int)) w := by kernel_rfl
theorem env_index1 (e : Fm.Env) (w : World) :
    (Instr.index 80 (.agg #[.int .i64 ((e 0 : Nat) : Int), .int .i64 ((e 1 : Nat) : Int), .int .i64 ((e 2 : Nat) : Int), .int .i64 ((e 3 : Nat) : Int)]) (.int .i64 1)).run Tryd.prog w = .ok (.int .i64 ((e 1 : Nat) : Int)) w := by kernel_rfl
theorem env_index2 (e : Fm.Env) (w : World) :
    (Instr.index 80 (.agg #[.int .i64 ((e 0 : Nat) : Int), .int .i64 ((e 1 : Nat) : Int), .int .i64 ((e 2 : Nat) : Int), .int .i64 ((e 3 : Nat) : Int)]) (.int .i64 2)).run Tryd.prog w = .ok (.int .i64 ((e 2 : Nat) : Int)) w := by kernel_rfl
theorem env_index3 (e : Fm.Env) (w : World) :
    (Instr.index 80 (.agg #[.int .i64 ((e 0 : Nat) : Int), .int .i64 ((e 1 : Nat) : Int), .int .i64 ((e 2 : Nat) : Int), .int .i64 ((e 3 : Nat) : Int)]) (.int .i64 3)).run Tryd.prog w = .ok (.int .i64 ((e 3 : Nat) : Int)) w := by kernel_rfl
theorem new_map (w : World) : (Instr.makeMap 173 none).run Tryd.prog w = .ok (.map (some w.heap.size)) (w.alloc (.map #[] 0)) := by kernel_rfl
theorem nil_map (w : World) : (binOp BinOp.eql 173 (.map none) (.map none)).run Tryd.prog w = .ok (.bool true) w := by kernel_rfl
theorem not_nil_map (w : World) (r : Nat) : (binOp BinOp.eql 173 (.map (some r)) (.map none)).run Tryd.prog w = .ok (.bool false) w := by kernel_rfl
theorem ofInt_nat64 (a : Nat) (ha : a < 9223372036854775808) : (BitVec.ofInt 64 (a : Int)).toNat = a := by
  rw [BitVec.toNat_ofInt]; omega
theorem i64_and_one (a : Nat) (ha : a < 9223372036854775808) : bits .and .i64 (a : Int) 1 = ((a % 2 : Nat) : Int) := by
  show IntKind.i64.wrap ((BitVec.ofInt 64 (a : Int) &&& BitVec.ofInt 64 ((1 : Nat) : Int)).toNat : Int) = _
  rw [BitVec.toNat_and, ofInt_nat64 a ha, ofInt_nat64 1 (by omega), Nat.and_one_is_mod]
  exact IntWalk.i64_in _ (by omega)
theorem bit_cases (fr c : Nat) (hf : fr < 16) : (bits .and .i64 ((fr : Int) / (c : Int)) 1 = 0 ∧ ¬ fr / c % 2 = 1) ∨ (bits .and .i64 ((fr : Int) / (c : Int)) 1 = 1 ∧ fr / c % 2 = 1) := by
  have h := i64_and_one (fr / c) (Nat.lt_of_le_of_lt (Nat.div_le_self _ _) (by omega))
  rw [Int.natCast_ediv] at h
  rcases (show fr / c % 2 = 0 ∨ fr / c % 2 = 1 by omega) with h0 | h0
  · rw [h0] at h
    exact .inl ⟨h, by omega⟩
  · rw [h0] at h
    exact .inr ⟨h, h0⟩
theorem i64_or_nat (a b : Nat) (ha : a < 9223372036854775808) (hb : b < 9223372036854775808) : bits .or .i64 (a : Int) (b : Int) = ((a ||| b : Nat) : Int) := by
  show IntKind.i64.wrap ((BitVec.ofInt 64 (a : Int) ||| BitVec.ofInt 64 (b : Int)).toNat : Int) = _
  rw [BitVec.toNat_or, ofInt_nat64 a ha, ofInt_nat64 b hb]
  have : a ||| b < 2 ^ 63 := Nat.or_lt_two_pow ha hb
  exact IntWalk.i64_in _ (by omega)

theorem EverP.then {F G G' : Nat → Prop} {kb : Nat} {a : Gs.St} {w w1 w2 : World} (h : EverP F G kb a w w1) (hG : ∀ b, G' b → G b ∨ w.heap.size ≤ b) (k : EverP F G' kb a w1 w2) : EverP F G kb a w w2 := by
  obtain ⟨G2, m2, hG2⟩ := k.memo
  refine ⟨h.off.trans k.off hG, G2, m2, fun b hb => ?_⟩
  rcases hG2 b hb with h3 | h3
  · exact hG b h3
  · exact .inr (Nat.le_trans h.off.size h3)
set_option maxRecDepth 100000 in
set_option maxHeartbeats 2000000 in
theorem isTrue_of (φ : Fm.T) (HD : Hid (DecideOK φ)) : TrueOK φ := by
  intro F G w hb kb n S R p e hB hT he
  have he8 : ∀ v, e v < 8 := fun v => Nat.lt_of_lt_of_le (he v) hB.n8
  have hBW := hB.below ((Below.refl w.heap.size w).alloc (Nat.le_refl _) (.cells (envC e) 80))
  have hTW := hT.below ((Below.refl w.heap.size w).alloc (Nat.le_refl _) (.cells (envC e) 80))
  have hEW := EverP.of_below hB.memo ((Below.refl w.heap.size w).alloc (Nat.le_refl _) (.cells (envC e) 80))
  have hbox : (w.alloc (.cells (envC e) 80)).heap[w.heap.size]? = some (.cells (envC e) 80 (0, 0)) := heap_alloc_new w _
  have hGB : ¬ G w.heap.size := fun hg => by have := hB.memo.lt _ hg; omega
  obtain ⟨W, hW⟩ : ∃ W, w.alloc (.cells (envC e) 80) = W := ⟨_, rfl⟩
  rw [hW] at hBW hTW hEW hbox
  unfold envC at hW hbox
  have HW := Lib.hid hW
  obtain ⟨v, u, qs, nd, _⟩ := hTW.node
  have c3 := nd.cells.2.2.2.1
  have hfr := Fm.free_lt φ
  have h3 := hBW.hold.cells.2.2.2.1
  obtain ⟨V, b, ok, m1, m2, m3⟩ := memo_get hBW.memo hTW he8
  have HBW := Lib.hid hBW; have HTW := Lib.hid hTW; have HEW := Lib.hid hEW; have HBX := Lib.hid hbox; have HGB := Lib.hid hGB
  have HE := Lib.hid he; have HE8 := Lib.hid he8
  have M3 := Lib.hid m3; have M1 := Lib.hid m1; have M2 := Lib.hid m2
  have HK : Hid (Fm.keyTo (Fm.free φ) e 4 = Fm.keyN φ e) := rfl
  generalize hfv : Fm.free φ = fr at *
  have HFV := Lib.hid hfv
  obtain ⟨x5, hx5⟩ : ∃ x, w.heap.size = x := ⟨_, rfl⟩
  have HX5 := Lib.hid hx5
  clear nd hB hT he he8 m3 hfv hBW hTW hEW hbox hW m1 m2 hGB
  unfold envV ptrV
  unfold ptrV at M1
  go_enter Tryd.func128, Tryd.ntmps128
  go_wp2_with fail
  rw [HW.out]
  clear hx5
  go_loop [7, 14, 8, 9] (fun key i _ _ => (i = .int .i64 0 ∧ key = .int .i64 0) ∨ (i = .int .i64 1 ∧ key = .int .i64 ((Fm.keyTo fr e 1 : Nat) : Int)) ∨ (i = .int .i64 2 ∧ key = .int .i64 ((Fm.keyTo fr e 2 : Nat) : Int)) ∨ (i = .int .i64 3 ∧ key = .int .i64 ((Fm.keyTo fr e 3 : Nat) : Int)) ∨ (i = .int .i64 4 ∧ key = .int .i64 ((Fm.keyTo fr e 4 : Nat) : Int))) (fun _ i _ _ => (4 - intOf i).toNat)
  case atStart => exact .inl ⟨rfl, rfl⟩
  case round =>
    have HK1 : Hid (bits .or .i64 0 ((e 0 : Nat) : Int) = ((e 0 : Nat) : Int)) := by
      have h := i64_or_nat 0 (e 0) (by omega) (by have := HE8.out 0; omega)
      rw [Nat.zero_or] at h
      exact h
    have orK : ∀ (j : Nat) (hj : j < 4), fr / 2 ^ j % 2 = 1 → bits .or .i64 ((Fm.keyTo fr e j : Nat) : Int) (((Fm.eAt e j : Nat) : Int) * ((8 ^ j : Nat) : Int)) = ((Fm.keyTo fr e (j + 1) : Nat) : Int) := by
      intro j hj hb
      have h8 : (8 : Nat) ^ j ≤ 512 := by
        rcases (show j = 0 ∨ j = 1 ∨ j = 2 ∨ j = 3 by omega) with rfl | rfl | rfl | rfl <;> decide
      have h1 := Fm.keyTo_lt (s := fr) HE8.out j
      have h2 := Fm.eAt_lt HE8.out j
      have h3 : Fm.eAt e j * 8 ^ j ≤ 7 * 512 := Nat.mul_le_mul (by omega) h8
      rw [← Int.natCast_mul, i64_or_nat _ _ (by omega) (by omega), Fm.key_or HE8.out j hb]
    have ORK := Lib.hid orK
    have NOT := Lib.hid (fun (j : Nat) (hb : ¬ fr / 2 ^ j % 2 = 1) => Fm.key_not (s := fr) (e := e) j hb)
    clear orK
    rcases hrel with ⟨rfl, rfl⟩ | ⟨rfl, rfl⟩ | ⟨rfl, rfl⟩ | ⟨rfl, rfl⟩ | ⟨rfl, rfl⟩
    · have hix := env_index0 e W
      have g0 : (e 0) < 8 := HE8.out 0
      rcases bit_cases fr 1 hfr with ⟨hb, hb2⟩ | ⟨hb, hb2⟩
      · have hb : bits .and .i64 (fr : Int) 1 = 0 := by simpa using hb
        have HE1 : Hid (((Fm.keyTo fr e 1 : Nat) : Int) = 0) := by
          show _ = _
          rw [NOT.out 0 (by simpa using hb2)]; rfl
        clear hb2
        go_wp2_with fail
        go_round
        case rel => exact .inr (.inl ⟨rfl, by rw [HE1.out]⟩)
        case measure => simp [intOf]
      · have hb : bits .and .i64 (fr : Int) 1 = 1 := by simpa using hb
        have HE1 : Hid (((Fm.keyTo fr e 1 : Nat) : Int) = ((e 0 : Nat) : Int)) := by
          show _ = _
          have h := ORK.out 0 (by omega) (by simpa using hb2)
          rw [← h]
          have e1 : ((8 ^ 0 : Nat) : Int) = 1 := rfl
          rw [e1, Int.mul_one]
          exact HK1.out
        have hk1 := HK1.out
        clear hb2
        go_wp2_with fail
        go_round
        case rel => exact .inr (.inl ⟨rfl, by rw [HE1.out]⟩)
        case measure => simp [intOf]
    · have hix := env_index1 e W
      have g0 : (e 1) < 8 := HE8.out 1
      rcases bit_cases fr 2 hfr with ⟨hb, hb2⟩ | ⟨hb, hb2⟩
      · have hb : bits .and .i64 ((fr : Int) / 2) 1 = 0 := hb
        have HE1 : Hid (Fm.keyTo fr e 2 = Fm.keyTo fr e 1) := NOT.out 1 hb2
        clear hb2
        go_wp2_with fail
        go_round
        case rel => exact .inr (.inr (.inl ⟨rfl, by rw [HE1.out]⟩))
        case measure => simp [intOf]
      · have hb : bits .and .i64 ((fr : Int) / 2) 1 = 1 := hb
        have hk1 : bits .or .i64 ((Fm.keyTo fr e 1 : Nat) : Int) (((e 1 : Nat) : Int) * 8) = ((Fm.keyTo fr e 2 : Nat) : Int) := ORK.out 1 (by omega) hb2
        clear hb2
        go_wp2_with fail
        go_round
        case rel => exact .inr (.inr (.inl ⟨rfl, rfl⟩))
        case measure => simp [intOf]
    · have hix := env_index2 e W
      have g0 : (e 2) < 8 := HE8.out 2
      rcases bit_cases fr 4 hfr with ⟨hb, hb2⟩ | ⟨hb, hb2⟩
      · have hb : bits .and .i64 ((fr : Int) / 4) 1 = 0 := hb
        have HE1 : Hid (Fm.keyTo fr e 3 = Fm.keyTo fr e 2) := NOT.out 2 hb2
        clear hb2
        go_wp2_with fail
        go_round
        case rel => exact .inr (.inr (.inr (.inl ⟨rfl, by rw [HE1.out]⟩)))
        case measure => simp [intOf]
      · have hb : bits .and .i64 ((fr : Int) / 4) 1 = 1 := hb
        have hk1 : bits .or .i64 ((Fm.keyTo fr e 2 : Nat) : Int) (((e 2 : Nat) : Int) * 64) = ((Fm.keyTo fr e 3 : Nat) : Int) := ORK.out 2 (by omega) hb2
        clear hb2
        go_wp2_with fail
        go_round
        case rel => exact .inr (.inr (.inr (.inl ⟨rfl, rfl⟩)))
        case measure => simp [intOf]
    · have hix := env_index3 e W
      have g0 : (e 3) < 8 := HE8.out 3
      rcases bit_cases fr 8 hfr with ⟨hb, hb2⟩ | ⟨hb, hb2⟩
      · have hb : bits .and .i64 ((fr : Int) / 8) 1 = 0 := hb
        have HE1 : Hid (Fm.keyTo fr e 4 = Fm.keyTo fr e 3) := NOT.out 3 hb2
        clear hb2
        go_wp2_with fail
        go_round
        case rel => exact .inr (.inr (.inr (.inr ⟨rfl, by rw [HE1.out]⟩)))
        case measure => simp [intOf]
      · have hb : bits .and .i64 ((fr : Int) / 8) 1 = 1 := hb
        have hk1 : bits .or .i64 ((Fm.keyTo fr e 3 : Nat) : Int) (((e 3 : Nat) : Int) * 512) = ((Fm.keyTo fr e 4 : Nat) : Int) := ORK.out 3 (by omega) hb2
        clear hb2
        go_wp2_with fail
        go_round
        case rel => exact .inr (.inr (.inr (.inr ⟨rfl, rfl⟩)))
        case measure => simp [intOf]
    · have m1 := M1.out
      have m2 := M2.out
      rw [← HK.out] at m2
      have HDD : Hid (∀ G' w', Base F G' w' hb kb n S R → Tree F w' φ p → Calls Tryd.prog 175 #[ptrV hb, ptrV p, envV e] w' fun en w2 => en = .returned (.bool (Fm.holds (stOf n S R) φ e)) ∧ EverP F G' kb (stOf n S R) w' w2) := fun G' w' h1 h2 => HD.out F G' w' hb kb n S R p e h1 h2 HE.out
      cases ok
      · have hx5 := HX5.out
        have hbx := HBX.out
        rw [hx5] at hbx
        have b0 : W.cell? ⟨x5, 0, none⟩ = some (.int .i64 ((e 0 : Nat) : Int)) := by simp [World.cell?, hbx]
        have b1 : W.cell? ⟨x5, 1, none⟩ = some (.int .i64 ((e 1 : Nat) : Int)) := by simp [World.cell?, hbx]
        have b2 : W.cell? ⟨x5, 2, none⟩ = some (.int .i64 ((e 2 : Nat) : Int)) := by simp [World.cell?, hbx]
        have b3 : W.cell? ⟨x5, 3, none⟩ = some (.int .i64 ((e 3 : Nat) : Int)) := by simp [World.cell?, hbx]
        clear hbx
        have hgx := HGB.out
        rw [hx5] at hgx
        go_wp2_with fail
        refine (HDD.out G W HBW.out HTW.out).mono ?_
        rintro en w2 ⟨rfl, hev⟩
        obtain ⟨G2, hm2, hG2⟩ := hev.memo
        have hB2 := HBW.out.ever hev hm2
        have hT2 := HTW.out.ever HBW.out.memo hev
        have k3 := hB2.hold.cells.2.2.2.1
        have HV2 := Lib.hid hev
        have HB2 := Lib.hid hB2; have HT2 := Lib.hid hT2; have HM2 := Lib.hid hm2
        rcases memo_look hm2 hT2 with ⟨l1, _⟩ | ⟨r, l1, _⟩
        · obtain ⟨w3, n1, n2, n3⟩ := memo_new hm2 hT2 l1
          obtain ⟨G3, hm3, hG3⟩ := n2.memo
          have hB3 := HB2.out.ever n2 hm3
          have hT3 := HT2.out.ever hm2 n2
          have j3 := hB3.hold.cells.2.2.2.1
          obtain ⟨w4, p1, p2⟩ := memo_put hm3 hT3 n3 (e := e) HE8.out
          have HEND := Lib.hid (HEW.out.then (fun b hb => .inl hb) (HV2.out.then hG2 (n2.then hG3 p2)))
          rw [← HK.out] at p1
          unfold ptrV at l1 n1 n3
          have nl := nil_map w2
          have nm := new_map w2
          clear hm2 hG2 hB2 hT2 hev hm3 hG3 hB3 hT3 n2 p2 b0 b1 b2 b3 k3
          have k3 := HB2.out.hold.cells.2.2.2.1
          go_wp2_with fail
          go_ret
          exact ⟨rfl, HEND.out⟩
        · obtain ⟨w4, p1, p2⟩ := memo_put hm2 hT2 l1 (e := e) HE8.out
          have HEND := Lib.hid (HEW.out.then (fun b hb => .inl hb) (HV2.out.then hG2 p2))
          rw [← HK.out] at p1
          unfold ptrV at l1
          have nl := not_nil_map w2 r
          clear hm2 hG2 hB2 hT2 hev p2 b0 b1 b2 b3
          go_wp2_with fail
          go_ret
          exact ⟨rfl, HEND.out⟩
      · have HR : Hid (b = Fm.holds (stOf n S R) φ e) := M3.out rfl
        go_wp2_with fail
        go_ret
        exact ⟨ret_bool HR.out, HEW.out⟩
end Go.Proofs.YtadgiknnejjplaaDoor
