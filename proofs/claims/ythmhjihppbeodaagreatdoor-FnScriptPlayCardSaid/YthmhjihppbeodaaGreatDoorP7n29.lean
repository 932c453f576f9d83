/- Contracts of the program's functions and what they compute: part 29. Conditions: those that each theorem states. -/
import Derived.Test.YthmhjihppbeodaaGreatDoorP7n16
import Derived.Test.YthmhjihppbeodaaGreatDoorP7n28
namespace Go.Proofs.YthmhjihppbeodaaGreatDoor
open Go.RowKit
set_option linter.unusedVariables false
set_option maxRecDepth 100000
theorem int_beq_comm (a b : Int) : (a == b) = (b == a) := by rw [Bool.eq_iff_iff, beq_iff_eq, beq_iff_eq]; exact eq_comm
set_option maxHeartbeats 2000000 in
theorem l5Reply_any (n : Nat) (S R : ByteArray) (m : Nat) (S2 R2 : ByteArray) (va vb : Value) (la lb : List Nat) (k x : Nat) (w : World) (hp : Pos n S R m S2 R2 la lb (k + 1)) (hk : k ≤ 3) (hx : x < n) (hva : NumsAt w va la) (hvb : NumsAt w vb lb) :
    Calls Tryz.prog 49 #[strV n S R, va, strV m S2 R2, vb, .int .i64 ((k : Int) + 1), .int .i64 (x : Int)] w fun e w' => e = .returned (.int .i64 (repI (winR (stOf n S R) la (stOf m S2 R2) lb k x))) ∧ Below w.heap.size w w' := by
  have HP := Lib.hid hp
  have HT := Lib.hid (Two.new w n S R m S2 R2)
  have HTZ : Hid ((boxS (boxS w n S R) m S2 R2).heap.size = w.heap.size + 2) := by show _ = _; rw [boxS_size, boxS_size]
  unfold boxS at HT HTZ
  have HVA := Lib.hid hva; have HVB := Lib.hid hvb
  have hva0 : ∀ j, va.ownBlock = some j → j < w.heap.size ∨ va = .slice none 0 0 := by
    intro j hj
    rcases hva with ⟨rfl, _⟩ | ⟨g, o, cap, rfl, _, _, h1, _⟩
    · exact .inr rfl
    · obtain rfl := Option.some.inj hj; exact .inl h1
  have hvb0 : ∀ j, vb.ownBlock = some j → j < w.heap.size ∨ vb = .slice none 0 0 := by
    intro j hj
    rcases hvb with ⟨rfl, _⟩ | ⟨g, o, cap, rfl, _, _, h1, _⟩
    · exact .inr rfl
    · obtain rfl := Option.some.inj hj; exact .inl h1
  have HVA0 := Lib.hid hva0; have HVB0 := Lib.hid hvb0
  have hm8 := hp.hm
  obtain ⟨K, hK⟩ : ∃ K : Int, (k : Int) + 1 = K := ⟨_, rfl⟩
  have hKw : IntKind.i64.wrap (k : Int) = (k : Int) := IntWalk.i64_in _ (by omega)
  have hKw2 : K - 1 = (k : Int) := by omega
  rw [hK]
  obtain ⟨RES, hRES⟩ : ∃ r, winR (stOf n S R) la (stOf m S2 R2) lb k x = r := ⟨_, rfl⟩
  rw [hRES]
  have HRES := Lib.hid hRES
  clear hp hva hvb hva0 hvb0 hK hRES
  unfold strV
  go_enter Tryz.func49, Tryz.ntmps49
  go_wp2_with fail
  refine (l5New_any _).mono ?_; rintro e w1 ⟨gL, gC, F, vs, rfl, ht, hb, hF⟩
  have HT1 := Lib.hid (HT.out.below hb)
  have HTB := Lib.hid ht
  have HFF := Lib.hid hF
  have HS1 := Lib.hid hb.size
  clear ht hb hF
  unfold tblV
  go_wp2_with fail
  obtain ⟨wo, hwo⟩ : ∃ wo, w1.alloc (.cells #[.slice (some ⟨gL, 0, none⟩) 997 997, .slice (some ⟨gC, 0, none⟩) 1 1] 114) = wo := ⟨_, rfl⟩
  have hbw : Below w1.heap.size w1 wo := by rw [← hwo]; exact (Below.refl _ _).alloc (Nat.le_refl _) _
  have hzw : wo.heap.size = w1.heap.size + 1 := by rw [← hwo]; simp
  have q0 : wo.cell? ⟨w1.heap.size, 0, none⟩ = some (.slice (some ⟨gL, 0, none⟩) 997 997) := by rw [← hwo]; simp
  have q1 : wo.cell? ⟨w1.heap.size, 1, none⟩ = some (.slice (some ⟨gC, 0, none⟩) 1 1) := by rw [← hwo]; simp
  rw [hwo]
  have HT2 := Lib.hid (HT1.out.below hbw)
  have HTR := Lib.hid (HTB.out.below hbw)
  have HB2 : Hid (Below w.heap.size w wo) := HT2.out.old
  have hFlo : ∀ b, F b → w.heap.size + 2 ≤ b := fun b hb => by have := HFF.out b hb; have := HTZ.out; omega
  have hFhi : ∀ b, F b → b < w1.heap.size := HTB.out.lt
  have HFLO := Lib.hid hFlo; have HFHI := Lib.hid hFhi
  obtain ⟨a0, a1, a2, _, _, _, _⟩ := HT2.out.a.cells
  obtain ⟨b0, b1, b2, _, _, _, hbl⟩ := HT2.out.b.cells
  have KS : Hid (∀ w' : World, Off F wo w' → (w'.cell? ⟨w1.heap.size, 0, none⟩ = some (.slice (some ⟨gL, 0, none⟩) 997 997) ∧ w'.cell? ⟨w1.heap.size, 1, none⟩ = some (.slice (some ⟨gC, 0, none⟩) 1 1) ∧ w'.cell? ⟨w.heap.size, 0, none⟩ = some (.int .i64 n) ∧ w'.cell? ⟨w.heap.size, 1, none⟩ = some (.string S) ∧ w'.cell? ⟨w.heap.size, 2, none⟩ = some (.string R) ∧ w'.cell? ⟨w.heap.size + 1, 0, none⟩ = some (.int .i64 m) ∧ w'.cell? ⟨w.heap.size + 1, 1, none⟩ = some (.string S2) ∧ w'.cell? ⟨w.heap.size + 1, 2, none⟩ = some (.string R2))) := by
    intro w' h
    have n0 : ¬ F w1.heap.size := fun e => by have := HFHI.out _ e; omega
    have n1 : ¬ F w.heap.size := fun e => by have := HFLO.out _ e; omega
    have n2 : ¬ F (w.heap.size + 1) := fun e => by have := HFLO.out _ e; omega
    have l0 : w1.heap.size < wo.heap.size := by omega
    have l1 : w.heap.size < wo.heap.size := by omega
    refine ⟨(h.cell (p := ⟨w1.heap.size, 0, none⟩) l0 n0).trans q0, (h.cell (p := ⟨w1.heap.size, 1, none⟩) l0 n0).trans q1, (h.cell (p := ⟨w.heap.size, 0, none⟩) l1 n1).trans a0, (h.cell (p := ⟨w.heap.size, 1, none⟩) l1 n1).trans a1, (h.cell (p := ⟨w.heap.size, 2, none⟩) l1 n1).trans a2, (h.cell (p := ⟨w.heap.size + 1, 0, none⟩) hbl n2).trans b0, (h.cell (p := ⟨w.heap.size + 1, 1, none⟩) hbl n2).trans b1, (h.cell (p := ⟨w.heap.size + 1, 2, none⟩) hbl n2).trans b2⟩
  have hsw := HB2.out.size
  have noF : ∀ {v : Value}, (∀ j, v.ownBlock = some j → j < w.heap.size ∨ v = .slice none 0 0) → ∀ G : Nat → Prop, (∀ b, G b → w.heap.size ≤ b) → ∀ j, v.ownBlock = some j → ¬ G j := by
    intro v h G hG j hj e
    rcases h j hj with h1 | h1
    · have := hG j e; omega
    · rw [h1] at hj; cases hj
  have HLA : Hid (la.length ≤ 1000 ∧ lb.length ≤ 1000) := by have h1 := HP.out.hl8; have h2 := HP.out.hl; exact ⟨by omega, by omega⟩
  have HWA : Hid (∀ W, Off F wo W → Calls Tryz.prog 27 #[va, .int .i64 (x : Int)] W (NewNums W (la ++ [x]))) := fun W hW =>
    l4With_any va la x W ((HVA.out.below HB2.out).off hW (noF HVA0.out F (fun b hb => by have := HFLO.out b hb; omega))) HLA.out.1
  have HWB : Hid (∀ (y : Nat) (W : World), Off F wo W → Calls Tryz.prog 27 #[vb, .int .i64 (y : Int)] W (NewNums W (lb ++ [y]))) := fun y W hW =>
    l4With_any vb lb y W ((HVB.out.below HB2.out).off hW (noF HVB0.out F (fun b hb => by have := HFLO.out b hb; omega))) HLA.out.2
  have hty1 : ∀ (W : World) (v1 : Value), Below wo.heap.size wo W → NumsAt W v1 (la ++ [x]) → (∃ k, v1.ownBlock = some k ∧ wo.heap.size ≤ k) → Calls Tryz.prog 81 #[tblV gL gC, strV n S R, v1, .int .i64 (k : Int)] W (Typed gL gC F [] (stOf n S R) k (la ++ [x]) W) := by
    intro W v1 hW h1 h2
    refine l5Type_any k (by omega) gL gC F vs [] n S R v1 (la ++ [x]) W ⟨HTR.out.below hW, ?_, HP.out.hS, HP.out.hR, HP.out.hn, h1, ?_, ?_, mem_snoc HP.out.ha hx⟩
    · have := calls_le n k HP.out.hn hk
      simp; omega
    · intro j hj e
      obtain ⟨i, hi, hl⟩ := h2
      rw [hi] at hj
      obtain rfl := Option.some.inj hj
      have := HFHI.out _ e; omega
    · have := HP.out.hl8; simp; omega
  have hty2 : ∀ (y lim : Nat) (W W1 : World) (F2 : Nat → Prop) (vs2 : Array Value) (E : List (List UInt8)) (v1 : Value) (num : Nat), y < m → lim ≤ 10000 → Rq wo F gL gC (stOf n S R) k (la ++ [x]) num lim W F2 vs2 E → Below W.heap.size W W1 → NumsAt W1 v1 (lb ++ [y]) → (∃ k, v1.ownBlock = some k ∧ W.heap.size ≤ k) →
      Calls Tryz.prog 81 #[tblV gL gC, strV m S2 R2, v1, .int .i64 (k : Int)] W1 (Typed gL gC F2 E (stOf m S2 R2) k (lb ++ [y]) W1) := by
    intro y lim W W1 F2 vs2 E v1 num hy hlim hq hW h1 h2
    refine l5Type_any k (by omega) gL gC F2 vs2 E m S2 R2 v1 (lb ++ [y]) W1 ⟨hq.tbl.below hW, ?_, HP.out.hS2, HP.out.hR2, HP.out.hm, h1, ?_, ?_, mem_snoc HP.out.hb hy⟩
    · have := calls_le m k HP.out.hm hk
      have := hq.few
      omega
    · intro j hj e
      obtain ⟨i, hi, hl⟩ := h2
      rw [hi] at hj
      obtain rfl := Option.some.inj hj
      have := hq.tbl.lt _ e; omega
    · have h1 := HP.out.hl8; have h2 := HP.out.hl; simp; omega
  have HCB : Hid (callsN n k ≤ 585 ∧ callsN m k ≤ 585) := ⟨calls_le n k HP.out.hn hk, calls_le m k HP.out.hm hk⟩
  unfold tblV strV at hty1 hty2
  have HTY1 := Lib.hid hty1; have HTY2 := Lib.hid hty2
  clear hty1 hty2 noF hFlo hFhi hwo hbw HT HT1 HTB HTZ
  go_region_held3 (fun w' => w'.cell? ⟨w1.heap.size, 0, none⟩ = some (.slice (some ⟨gL, 0, none⟩) 997 997) ∧ w'.cell? ⟨w1.heap.size, 1, none⟩ = some (.slice (some ⟨gC, 0, none⟩) 1 1) ∧ w'.cell? ⟨w.heap.size, 0, none⟩ = some (.int .i64 n) ∧ w'.cell? ⟨w.heap.size, 1, none⟩ = some (.string S) ∧ w'.cell? ⟨w.heap.size, 2, none⟩ = some (.string R) ∧ w'.cell? ⟨w.heap.size + 1, 0, none⟩ = some (.int .i64 m) ∧ w'.cell? ⟨w.heap.size + 1, 1, none⟩ = some (.string S2) ∧ w'.cell? ⟨w.heap.size + 1, 2, none⟩ = some (.string R2))
    (first | exact KS.out _ HOF.out | go_keep)
    (first | ((with_reducible refine (HWA.out _ (Off.of_below (Below.refl wo.heap.size wo).drew)).mono ?_); rintro e w3 ⟨v1, rfl, ho, hb⟩; have HB3 := Lib.hid ((Below.refl wo.heap.size wo).drew.trans (hb.mono (Nat.le_refl _))); have HOF : Hid (Off F wo w3) := Off.of_below HB3.out; have HN3 := Lib.hid ho.nums; have HK3 := Lib.hid (ho.block); clear ho hb) | ((with_reducible refine (HTY1.out _ v1 HB3.out HN3.out ?_).mono ?_); (obtain ⟨k, h1, h2, _⟩ := HK3.out; exact ⟨k, h1, h2⟩); rintro e w4 ⟨num, F2, vs2, E2, rfl, ht, hE, hn2, hoff, hF2⟩; have HOF := Lib.hid (HOF.out.trans hoff (fun b hb => .inl hb)); have HQ : Hid (Rq wo F gL gC (stOf n S R) k (la ++ [x]) num 585 w4 F2 vs2 E2) := ⟨ht, Nat.le_trans hE HCB.out.1, hn2, HOF.out, fun b hb => (hF2 b hb).imp id (fun h => Nat.le_trans HB3.out.size h)⟩; clear ht hE hn2 hoff hF2) | fail)
  obtain ⟨q0, q1, a0, a1, a2, b0, b1, b2⟩ := KS.out _ HOF.out
  go_wp2_with fail
  go_loopw [15] (fun i wr => ∃ y : Nat, y ≤ m ∧ i = .int .i64 (y : Int) ∧ Hid (∃ F2 vs2 E2, Rq wo F gL gC (stOf n S R) k (la ++ [x]) num (585 * (y + 1)) wr F2 vs2 E2) ∧ Hid (∀ z, z < y → Gs.wins k (stOf n S R) (la ++ [x]) (stOf m S2 R2) (lb ++ [z]) = false)) (fun i _ => m - (intOf i).toNat)
  case atStart => exact ⟨0, by omega, rfl, ⟨_, _, _, HQ.out⟩, fun z hz => absurd hz (Nat.not_lt_zero z)⟩
  case round =>
    clear q0 q1 a0 a1 a2 b0 b1 b2 HQ HOF
    obtain ⟨y, hy, rfl, HQQ, HZ⟩ := hrel
    obtain ⟨F2, vs2, E2, hq⟩ := HQQ.out
    have HQ := Lib.hid hq
    have HOF := Lib.hid hq.off
    clear hq HQQ
    obtain ⟨q0, q1, a0, a1, a2, b0, b1, b2⟩ := KS.out _ HOF.out
    by_cases hlt : y < m
    · have hltI : (y : Int) < (m : Int) := by omega
      have hlim : 585 * (y + 1) ≤ 10000 := by omega
      have HLW := Lib.hid (fun h => HRES.out.symm.trans (winR_at (a := stOf n S R) (la := la) (b := stOf m S2 R2) (lb := lb) (k := k) (x := x) hlt HZ.out h))
      go_upto_region 6 with fail
      go_region_held3 (fun w' => w'.cell? ⟨w1.heap.size, 0, none⟩ = some (.slice (some ⟨gL, 0, none⟩) 997 997) ∧ w'.cell? ⟨w1.heap.size, 1, none⟩ = some (.slice (some ⟨gC, 0, none⟩) 1 1) ∧ w'.cell? ⟨w.heap.size, 0, none⟩ = some (.int .i64 n) ∧ w'.cell? ⟨w.heap.size, 1, none⟩ = some (.string S) ∧ w'.cell? ⟨w.heap.size, 2, none⟩ = some (.string R) ∧ w'.cell? ⟨w.heap.size + 1, 0, none⟩ = some (.int .i64 m) ∧ w'.cell? ⟨w.heap.size + 1, 1, none⟩ = some (.string S2) ∧ w'.cell? ⟨w.heap.size + 1, 2, none⟩ = some (.string R2))
        (first | exact KS.out _ HOF.out | go_keep)
        (first | ((with_reducible refine (HWB.out y _ (HQ.out.off.trans (Off.of_below (F := fun _ => False) (Below.refl wr.heap.size wr).drew) (fun _ h => h.elim))).mono ?_); rintro e w5 ⟨v1, rfl, ho, hb⟩; have HB5 := Lib.hid ((Below.refl wr.heap.size wr).drew.trans (hb.mono (Nat.le_refl _))); have HOF := Lib.hid (HQ.out.off.trans (Off.of_below (F := fun _ => False) HB5.out) (fun _ h => h.elim)); have HN5 := Lib.hid ho.nums; have HK5 := Lib.hid (ho.block); clear ho hb) | ((with_reducible refine (HTY2.out y _ wr _ F2 vs2 E2 v1 num hlt hlim HQ.out HB5.out HN5.out ?_).mono ?_); (obtain ⟨k, h1, h2, _⟩ := HK5.out; exact ⟨k, h1, h2⟩); rintro e w6 ⟨num2, F3, vs3, E3, rfl, ht, hE, hn2, hoff, hF3⟩; have HQ2 := Lib.hid (HQ.out.next HB5.out ht (Nat.le_trans hE HCB.out.2) hoff hF3); have HEQ := Lib.hid (wins_num ht.nodup (by simp [HP.out.hl]) HQ.out.tn.more hn2); have HOF := Lib.hid HQ2.out.off; clear ht hE hn2 hoff hF3) | fail)
      all_goals
        clear q0 q1 a0 a1 a2 b0 b1 b2
        obtain ⟨q0, q1, a0, a1, a2, b0, b1, b2⟩ := KS.out _ HOF.out
        obtain ⟨c, hc⟩ : ∃ c, Gs.wins k (stOf n S R) (la ++ [x]) (stOf m S2 R2) (lb ++ [y]) = c := ⟨_, rfl⟩
        have hEq : ((num2 : Int) == (num : Int)) = c := by
          rw [← hc, ← HEQ.out]
          exact int_beq_comm _ _
        have HC := Lib.hid hc
        have HB4 : Hid (Below w.heap.size w w6) := HB2.out.trans (HOF.out.below hsw (fun b hb => by have := HFLO.out b hb; omega))
        clear hc HEQ
        cases c
        · have HQ3 : Hid (Rq wo F gL gC (stOf n S R) k (la ++ [x]) num (585 * (y + 1 + 1)) w6 F3 vs3 (E2 ++ E3)) := by
            have h := HQ2.out
            rw [show 585 * (y + 1) + 585 = 585 * (y + 1 + 1) by omega] at h
            exact h
          clear HQ2 HLW
          go_wp2_with fail
          go_roundw
          case rel =>
            refine ⟨y + 1, by omega, by go_num, ⟨_, _, _, HQ3.out⟩, fun z hz => ?_⟩
            by_cases hzy : z = y
            · rw [hzy]; exact HC.out
            · exact HZ.out z (by omega)
          case measure => simp [intOf]; omega
        · have HE : Hid (RES = some y) := HLW.out HC.out
          clear HQ2 HLW
          go_wp2_with fail
          go_ret
          exact ⟨by rw [HE.out]; rfl, HB4.out⟩
    · have HE : Hid (RES = none) := HRES.out.symm.trans (winR_none fun z hz => HZ.out z (by have hz : z < m := hz; omega))
      have HB4 : Hid (Below w.heap.size w wr) := HB2.out.trans (HOF.out.below hsw (fun b hb => by have := HFLO.out b hb; omega))
      have hltI : ¬ (y : Int) < (m : Int) := by omega
      clear HZ
      go_wp2_with fail
      go_ret
      exact ⟨by rw [HE.out]; rfl, HB4.out⟩
end Go.Proofs.YthmhjihppbeodaaGreatDoor
