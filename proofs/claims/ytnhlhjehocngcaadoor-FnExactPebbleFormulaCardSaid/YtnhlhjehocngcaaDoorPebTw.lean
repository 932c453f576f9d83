/- The walk of turn. Conditions: the sizes are small. -/
import Derived.Test.YtnhlhjehocngcaaDoorPebTu
namespace Go.Proofs.YtnhlhjehocngcaaDoor
open Go.RowKit
set_option linter.unusedVariables false
set_option maxRecDepth 100000

/-- What turn returns. -/
def TurnP (w : World) (p n : Nat) (S R : ByteArray) (m : Nat) (S2 R2 : ByteArray) (k : Nat) (F W : List Bool) (e : Ending) (w' : World) : Prop :=
  e = .returned (.bool (!decide (turnU n m k F W = W))) ∧ PebQ w' p n S R m S2 R2 k F (turnU n m k F W) ∧ Off (fun b => b = p) w w' ∧ ∃ fv wv, w.cell? ⟨p, 8, none⟩ = some fv ∧ PebG w' p n S R m S2 R2 k fv wv ∧ BoolsAt w' fv F ∧ BoolsAt w' wv (turnU n m k F W) ∧ ∀ j, wv.ownBlock = some j → w.heap.size ≤ j
set_option maxHeartbeats 4000000 in
theorem turn_any (p n m k : Nat) (S R S2 R2 : ByteArray) (F W : List Bool) (w : World) (hQ : PebQ w p n S R m S2 R2 k F W) (hn : n ≤ 8) (hm : m ≤ 8) (hn0 : 1 ≤ n) (hm0 : 1 ≤ m) (hk3 : k ≤ 3) (hF : F.length = (n * m + 1) ^ k) (hW : W.length = (n * m + 1) ^ k) :
    Calls Tryd.prog 38 #[.pointer (some ⟨p, 0, none⟩)] w (TurnP w p n S R m S2 R2 k F W) := by
  obtain ⟨fv, wv, hG, hf, hb, hfp, hwp⟩ := hQ
  have HFV : Hid (w.cell? ⟨p, 8, none⟩ = some fv) := hG.cells.2.2.2.2.1
  have hplt := hG.lt
  have hP65 := pairs_le hn hm
  have HP0 : Hid (0 < n * m + 1) := by show _ < _; omega
  have hpow := pow_le hP65 hk3
  rw [← hF] at hpow
  have HFW : Hid (F.length = (n * m + 1) ^ k ∧ W.length = F.length) := ⟨hF, by rw [hW, hF]⟩
  have HFL : Hid (0 < F.length) := by show _ < _; rw [hF]; exact Nat.pow_pos HP0.out
  have HAN := Lib.hid (fun fv wv rest step w hG hW hi hl => answered_any p n m k S R S2 R2 fv wv W rest step w hG hW hn hm hn0 hm0 hi hl)
  have HEQ := Lib.hid (fun v u L M w h1 h2 h3 => equal_bools v u L M w h1 h2 h3)
  have HT0 : Hid (Tn w p n S R m S2 R2 k fv wv F W (.slice (some ⟨w.heap.size, 0, none⟩) 0 0) [] (w.alloc (.cells #[] 4))) := by
    have ha : Below w.heap.size w (w.alloc (.cells #[] 4)) := (Below.refl _ _).alloc (Nat.le_refl _) _
    refine ⟨hG.below ha, hf.below ha, hb.below ha, fun j hj => ?_, fun j hj => ?_, OwnL.lit0 _ _ (Nat.le_refl _), hplt, ha⟩
    · obtain ⟨i, e, h⟩ := hf.block; rw [hj] at e; injection e with e; omega
    · obtain ⟨i, e, h⟩ := hb.block; rw [hj] at e; injection e with e; omega
  have HNE : Hid (fv.ownBlock ≠ some p ∧ wv.ownBlock ≠ some p) := ⟨hfp, hwp⟩
  have HLL : Hid (([] : List Bool).length + F.length ≤ 2000000) := by show _ ≤ _; simp; omega
  obtain ⟨c0, c3, c6, c7, c8, c9, c10, c11, c12⟩ := HT0.out.g.cells
  clear hF hW hfp hwp hf hb hG
  go_enter Tryd.func38, Tryd.ntmps38
  go_wp2_with (first | (at_builtin; refine wpList_ownLAll HT0.out.own HT0.out.f HLL.out rfl (.tmp 8) (.tmp 12) rfl rfl rfl ?_; intro v' w' ho hg; have HT1 := Lib.hid (HT0.out.push ho hg); have hc6 := HT1.out.g.cells.2.2.1; clear ho hg) | fail)
  obtain ⟨ng, nc, rfl, _, _, hnc1, hnc2, _⟩ := HT1.out.own.cells (by simpa using HFL.out)
  clear HT0 c0 c3 c6 c7 c8 c9 c10 c11 c12 HLL
  rw [List.nil_append] at HT1 hnc1
  obtain ⟨P, hP⟩ : ∃ P, n * m + 1 = P := ⟨_, rfl⟩
  have HPE := Lib.hid hP
  rw [hP] at HP0 hP65 HFW
  have HPP : Hid (∀ i, i ≤ 3 → P ^ i ≤ 274625) := fun i hi => pow_le hP65 hi
  obtain ⟨FL, hFL⟩ : ∃ FL, F.length = FL := ⟨_, rfl⟩
  have HFE := Lib.hid hFL
  have HT2 : Hid (Tn w p n S R m S2 R2 k fv wv F W (.slice (some ⟨ng, 0, none⟩) FL nc) (trI n m W F 0) w') := by
    have := HT1.out
    rw [hFL] at this
    exact this
  rw [List.nil_append, hFL]
  rw [hFL] at hnc1 hpow HFW HFL
  unfold maxLen at hnc2
  clear HT1 hFL hP
  go_wp2_with fail
  go_loopw [18, 4, 5, 6] (fun q t _ _ wr => ∃ (i st : Nat), i ≤ k ∧ q = .int .i64 (i : Int) ∧ t = .int .i64 (st : Int) ∧ Hid (st = P ^ i) ∧ Hid (Tn w p n S R m S2 R2 k fv wv F W (.slice (some ⟨ng, 0, none⟩) FL nc) (trI n m W F i) wr)) (fun q _ _ _ _ => k - (intOf q).toNat)
  case atStart => exact ⟨0, 1, by omega, rfl, rfl, by show _ = _; rw [Nat.pow_zero], HT2⟩
  case round =>
    clear HT2
    obtain ⟨i, st, hi, rfl, rfl, HST, HT⟩ := hrel
    by_cases hlt : i < k
    · have hiI : (i : Int) < (k : Int) := by omega
      have hst0 : 0 < st := by rw [HST.out]; exact Nat.pow_pos HP0.out
      have hst1 : st ≤ 274625 := by rw [HST.out]; exact HPP.out i (by omega)
      have HNX : Hid (trI n m W F (i + 1) = trS n m W st (trI n m W F i) FL) := by show _ = _; rw [HST.out, ← HPE.out, ← HFE.out]; rfl
      have HLN : Hid ((trI n m W F i).length = FL) := by show _ = _; rw [trI_len, HFE.out]
      generalize trI n m W F i = NI at *
      go_wp2_with fail
      obtain ⟨wo, hwo⟩ : ∃ wo, wo = wr := ⟨_, rfl⟩
      subst hwo
      go_loopw [22, 5, 6] (fun q _ _ wr => ∃ (s : Nat), s ≤ FL ∧ q = .int .i64 (s : Int) ∧ Hid (Tn w p n S R m S2 R2 k fv wv F W (.slice (some ⟨ng, 0, none⟩) FL nc) (trS n m W st NI s) wr)) (fun q _ _ _ => FL - (intOf q).toNat)
      case atStart => exact ⟨0, by omega, rfl, HT⟩
      case round =>
        clear HT
        obtain ⟨s, hs, rfl, HT⟩ := hrel
        by_cases hlt2 : s < FL
        · have hsI : (s : Int) < (FL : Int) := by omega
          obtain ⟨a, ha⟩ : ∃ a, s / st = a := ⟨_, rfl⟩
          obtain ⟨d, hd⟩ : ∃ d, a % P = d := ⟨_, rfl⟩
          have haI : (s : Int) / (st : Int) = (a : Int) := by rw [← ha]; exact (Int.natCast_ediv s st).symm
          have haT : (s : Int).tdiv (st : Int) = (a : Int) := by rw [← ha]; exact (Int.ofNat_tdiv s st).symm
          have hdI : (a : Int) % (P : Int) = (d : Int) := by rw [← hd]; exact (Int.natCast_emod a P).symm
          have hdT : (a : Int).tmod (P : Int) = (d : Int) := by rw [← hd]; exact (Int.ofNat_tmod a P).symm
          have has : a ≤ s := by rw [← ha]; exact Nat.div_le_self _ _
          have hdP : d < P := by rw [← hd]; exact Nat.mod_lt _ HP0.out
          have hP0n : ¬ (P : Int) = 0 := by have := HP0.out; omega
          have hst0n : ¬ (st : Int) = 0 := by omega
          have HAD : Hid (s / st % (n * m + 1) = d) := by show _ = _; rw [HPE.out, ha, hd]
          have HSN : Hid (trS n m W st NI (s + 1) = if keepB n m W st s then trS n m W st NI s else clrN (trS n m W st NI s) s st (n * m + 1)) := rfl
          have HLS : Hid ((trS n m W st NI s).length = FL) := by show _ = _; rw [trS_len]; exact HLN.out
          have hc7 := HT.out.g.cells.2.2.2.1
          rw [HPE.out] at hc7
          clear ha hd
          by_cases hd0 : d = 0
          · subst hd0
            have HIX : Hid (∀ q, q < P → s + st * q < FL) := fun q hq => by
              have h1 := HAD.out
              rw [HPE.out, HST.out] at h1
              rw [HST.out, HFW.out.1]
              exact dig0_lt HP0.out hlt (by rw [← HFW.out.1]; exact hlt2) h1 hq
            have HJ : Hid (s + st * (n * m) < W.length ∧ W.length ≤ 1000000) := by
              refine ⟨?_, by rw [HFW.out.2]; omega⟩
              rw [HFW.out.2]
              exact HIX.out _ (by have := HPE.out; omega)
            have j1 := fun (sc : Since wr) => HAN.out fv wv s st sc.w (HT.out.g.below sc.below) (HT.out.b.below sc.below) HJ.out.1 HJ.out.2
            have HKB : Hid (keepB n m W st s = ansB n m W s st) := by
              show _ = _
              unfold keepB
              rw [HAD.out]; simp
            generalize ansB n m W s st = r at *
            have J1 := Lib.hid j1
            clear j1 HAD
            have f7 := fun s => Since.cell hc7 s
            cases r
            · have HKE : Hid (trS n m W st NI (s + 1) = clrN (trS n m W st NI s) s st P) := by show _ = _; rw [HSN.out, HKB.out, if_neg (by decide), HPE.out]
              clear HSN HKB
              generalize trS n m W st NI s = NS at *
              go_wp2_with fail
              refine wp_region_since (by kernel_rfl) (by kernel_rfl) ?_
              repeat (go_big_quiet_step ((with_reducible exact Since.call (J1.out _))))
              refine wpQuiet_nil ?_
              intro w1 hb1
              have HT3 := Lib.hid (HT.out.below hb1)
              have hc72 := HT3.out.g.cells.2.2.2.1
              rw [HPE.out] at hc72
              clear hb1 f7 J1
              go_wp2_with fail
              obtain ⟨wo2, hwo2⟩ : ∃ wo2, wo2 = wr := ⟨_, rfl⟩
              subst hwo2
              go_loopw [44, 6] (fun q _ wr => ∃ (q0 : Nat), q0 ≤ P ∧ q = .int .i64 (q0 : Int) ∧ Hid (Tn w p n S R m S2 R2 k fv wv F W (.slice (some ⟨ng, 0, none⟩) FL nc) (clrN NS s st q0) wr)) (fun q _ _ => P - (intOf q).toNat)
              case atStart => exact ⟨0, by omega, rfl, HT3⟩
              case round =>
                clear HT3 HT
                obtain ⟨q0, hq0, rfl, HT⟩ := hrel
                by_cases hlt3 : q0 < P
                · have hqI : (q0 : Int) < (P : Int) := by omega
                  have hix := HIX.out q0 hlt3
                  have hcl := HT.out.cell (j := s + st * q0) (by rw [clrN_len, HLS.out]; exact hix)
                  have HTS : Hid (Tn w p n S R m S2 R2 k fv wv F W (.slice (some ⟨ng, 0, none⟩) FL nc) (clrN NS s st (q0 + 1)) (wr.setCell ⟨ng, s + st * q0, none⟩ (.bool false))) := HT.out.set (by rw [clrN_len, HLS.out]) _ _
                  have hsq : (st : Int) * (q0 : Int) = ((st * q0 : Nat) : Int) := by rw [Int.natCast_mul]
                  obtain ⟨sq, hsqe⟩ : ∃ sq, st * q0 = sq := ⟨_, rfl⟩
                  rw [hsqe] at hsq hix hcl HTS
                  obtain ⟨hcl1, hcl2⟩ := hcl
                  generalize (clrN NS s st q0).getD (s + sq) false = b0 at *
                  have hixI : (s : Int) + (sq : Int) < (FL : Int) := by omega
                  clear hsqe
                  go_wp2_with fail
                  go_roundw
                  case rel => exact ⟨q0 + 1, by omega, by go_num, HTS⟩
                  case measure => simp [intOf]; omega
                · obtain rfl : q0 = P := by omega
                  go_wp2_with fail
                  go_roundw
                  case rel => exact ⟨s + 1, by omega, by go_num, by rw [HKE.out]; exact HT.out⟩
                  case measure => simp [intOf]; omega
            · have HKE : Hid (trS n m W st NI (s + 1) = trS n m W st NI s) := by show _ = _; rw [HSN.out, HKB.out, if_pos rfl]
              clear HSN HKB
              go_wp2_with fail
              refine wp_region_since (by kernel_rfl) (by kernel_rfl) ?_
              repeat (go_big_quiet_step ((with_reducible exact Since.call (J1.out _))))
              refine wpQuiet_nil ?_
              intro w1 hb1
              have HT3 := Lib.hid (HT.out.below hb1)
              clear hb1 f7 J1
              go_wp2_with fail
              go_roundw
              case rel => exact ⟨s + 1, by omega, by go_num, by rw [HKE.out]; exact HT3.out⟩
              case measure => simp [intOf]; omega
          · have HKE : Hid (trS n m W st NI (s + 1) = trS n m W st NI s) := by
              show _ = _
              rw [HSN.out, if_pos]
              unfold keepB
              rw [HAD.out, decide_eq_true hd0]; rfl
            have hdb : ((d : Int) != 0) = true := by simpa using hd0
            clear HSN HAD
            have f7 := fun s => Since.cell hc7 s
            go_wp2_with fail
            refine wp_region_since (by kernel_rfl) (by kernel_rfl) ?_
            repeat (go_big_quiet_step (fail))
            refine wpQuiet_nil ?_
            intro w1 hb1
            have HT3 := Lib.hid (HT.out.below hb1)
            clear hb1 f7
            go_wp2_with fail
            go_roundw
            case rel => exact ⟨s + 1, by omega, by go_num, by rw [HKE.out]; exact HT3.out⟩
            case measure => simp [intOf]; omega
        · obtain rfl : s = FL := by omega
          have hc7 := HT.out.g.cells.2.2.2.1
          rw [HPE.out] at hc7
          have hsP : (st : Int) * (P : Int) = ((st * P : Nat) : Int) := by rw [Int.natCast_mul]
          have HPN : Hid (st * P = P ^ (i + 1)) := by show _ = _; rw [HST.out, Nat.pow_succ]
          have hsPb : st * P ≤ 274625 := by rw [HPN.out]; exact HPP.out _ (by omega)
          obtain ⟨sP, hsPe⟩ : ∃ sP, st * P = sP := ⟨_, rfl⟩
          rw [hsPe] at hsP hsPb HPN
          clear hsPe
          go_wp2_with fail
          go_roundw
          case rel => exact ⟨i + 1, sP, by omega, by go_num, rfl, HPN, by rw [HNX.out]; exact HT.out⟩
          case measure => simp [intOf]; omega
    · obtain rfl : i = k := by omega
      have hc9 := HT.out.g.cells.2.2.2.2.2.1
      have HN : Hid (BoolsAt wr (.slice (some ⟨ng, 0, none⟩) FL nc) (turnU n m i F W)) := HT.out.own.bools (by rw [trI_len, HFE.out]; exact HFL.out)
      have HE1 := Lib.hid (HEQ.out _ _ _ _ wr HN.out HT.out.b (by rw [turnU_len, HFE.out, HFW.out.2]))
      obtain ⟨RES, hres⟩ : ∃ r, decide (turnU n m i F W = W) = r := ⟨_, rfl⟩
      rw [hres] at HE1
      have HRES := Lib.hid hres
      clear hres
      go_wp2_with fail
      refine HE1.out.mono ?_; rintro e w1 ⟨rfl, hb1⟩
      have HT3 := Lib.hid (HT.out.below hb1)
      have HN3 := Lib.hid (HN.out.below hb1)
      have HF : Hid (TurnP w p n S R m S2 R2 i F W (.returned (.bool (!RES))) (w1.setCell ⟨p, 9, none⟩ (.slice (some ⟨ng, 0, none⟩) FL nc))) := by
        have hfk := HT3.out.f.kept (w' := w1.setCell ⟨p, 9, none⟩ (.slice (some ⟨ng, 0, none⟩) FL nc)) (fun j hj _ => Below.heap_setCell _ _ _ _ (fun e => HNE.out.1 (by rw [hj, e]))) (by simp)
        have hnk := HN3.out.kept (w' := w1.setCell ⟨p, 9, none⟩ (.slice (some ⟨ng, 0, none⟩) FL nc)) (fun j hj _ => Below.heap_setCell _ _ _ _ (fun e => by
          have h1 := (HT3.out.own.lt ng rfl).1
          have h2 : ng = j := by simpa [Value.ownBlock] using hj
          have h3 : j = p := e
          have := HT3.out.pl
          omega)) (by simp)
        refine ⟨by rw [HRES.out], ⟨fv, _, HT3.out.g.setW _, hfk, hnk, HNE.out.1, fun e => ?_⟩, ?_, fv, _, HFV.out, HT3.out.g.setW _, hfk, hnk, fun j hj => ?_⟩
        · have h1 := (HT3.out.own.lt ng rfl).1
          have h2 : ng = p := by simpa [Value.ownBlock] using e
          have := HT3.out.pl
          omega
        · have ho := HT3.out.old
          exact ⟨ho.os, ho.tape, ho.output, by simpa using ho.size, fun b hb hne => (Below.heap_setCell _ _ _ _ (by simpa using hne)).trans (ho.block b hb)⟩
        · have h1 := (HT3.out.own.lt ng rfl).1
          have h2 : ng = j := by simpa [Value.ownBlock] using hj
          omega
      obtain ⟨d0, d3, d6, d7, d8, d9, d10, d11, d12⟩ := HT3.out.g.cells
      clear hb1 d0 d3 d6 d7 d8
      cases RES
      all_goals
        go_wp2_with fail
        go_ret
        exact HF.out
end Go.Proofs.YtnhlhjehocngcaaDoor
