/- Contracts of the program's functions and what they compute: part 13. Conditions: those that each theorem states. -/
import Derived.Test.YtofmagiahmmmgaaGreatDoorP53n11
import Derived.Test.YtofmagiahmmmgaaGreatDoorP53n10
import Derived.Maps.AppendAt
namespace Go.Proofs.YtofmagiahmmmgaaGreatDoor
open Go.RowKit
set_option linter.unusedVariables false
set_option maxRecDepth 100000
/-- What turn returns. -/
def TurnP (w : World) (p n : Nat) (S R : ByteArray) (m : Nat) (S2 R2 : ByteArray) (k : Nat) (F W : List Bool) (e : Ending) (w' : World) : Prop :=
  e = .returned (.bool (!decide (turnU n m k F W = W))) ∧ PebQ w' p n S R m S2 R2 k F (turnU n m k F W) ∧ Off (fun b => b = p) w w' ∧ ∃ fv wv, w.cell? ⟨p, 8, none⟩ = some fv ∧ PebG w' p n S R m S2 R2 k fv wv ∧ BoolsAt w' fv F ∧ BoolsAt w' wv (turnU n m k F W) ∧ ∀ j, wv.ownBlock = some j → w.heap.size ≤ j
set_option maxHeartbeats 4000000 in
theorem turn_any (p n m k : Nat) (S R S2 R2 : ByteArray) (F W : List Bool) (w : World) (hQ : PebQ w p n S R m S2 R2 k F W) (hn : n ≤ 8) (hm : m ≤ 8) (hn0 : 1 ≤ n) (hm0 : 1 ≤ m) (hk3 : k ≤ 3) (hF : F.length = (n * m + 1) ^ k) (hW : W.length = (n * m + 1) ^ k) :
    Calls Tryz.prog 28 #[.pointer (some ⟨p, 0, none⟩)] w (TurnP w p n S R m S2 R2 k F W) := by
  obtain ⟨fv, wv, hG, hf, hb, hfp, hwp⟩ := hQ
  have HFV : Hid (w.cell? ⟨p, 8, none⟩ = some fv) := hG.cells.2.2.2.2.1
  have hplt := hG.lt
  have hP65 := pairs_le hn hm
  have HP0 : Hid (0 < n * m + 1) := by show _ < _; omega
  have hpow := pow_le hP65 hk3
  rw [← hF] at hpow
  have HFW : Hid (F.length = (n * m + 1) ^ k ∧ W.length = F.length) := ⟨hF, by rw [hW, hF]⟩
  have HFL : Hid (0 < F.length) := by show _ < _; rw [hF]; exact Nat.pow_pos HP0.out
  have HAN := Lib.hid (fun fv wv rest step w hG hW hi hl => answered_any p n m k S R S2 R2 fv wv W rest step w hG hW hn hm hn0 hm0 hi hl)
  have HEQ := Lib.hid (fun v u L M w h1 h2 h3 => equal_bools v u L M w h1 h2 h3)
  have HT0 : Hid (Tn w p n S R m S2 R2 k fv wv F W (.slice (some ⟨w.heap.size, 0, none⟩) 0 0) [] (w.alloc (.cells #[] 4))) := by
    have ha : Below w.heap.size w (w.alloc (.cells #[] 4)) := (Below.refl _ _).alloc (Nat.le_refl _) _
    refine ⟨hG.below ha, hf.below ha, hb.below ha, fun j hj => ?_, fun j hj => ?_, OwnL.lit0 _ _ (Nat.le_refl _), hplt, ha⟩
    · obtain ⟨i, e, h⟩ := hf.block; rw [hj] at e; injection e with e; omega
    · obtain ⟨i, e, h⟩ := hb.block; rw [hj] at e; injection e with e; omega
  have HNE : Hid (fv.ownBlock ≠ some p ∧ wv.ownBlock ≠ some p) := ⟨hfp, hwp⟩
  have HLL : Hid (([] : List Bool).length + F.length ≤ 2000000) := by show _ ≤ _; simp; omega
  obtain ⟨c0, c3, c6, c7, c8, c9, c10, c11, c12⟩ := HT0.out.g.cells
  clear hF hW hfp hwp hf hb hG
  go_enter Tryz.func28, Tryz.ntmps28
  go_wp2_with (first | (at_builtin; refine wpList_ownLAll HT0.out.own HT0.out.f HLL.out rfl (.tmp 8) (.tmp 12) rfl rfl rfl ?_; intro v' w' ho hg; have HT1 := Lib.hid (HT0.out.push ho hg); have hc6 := HT1.out.g.cells.2.2.1; clear ho hg) | fail)
  obtain ⟨ng, nc, rfl, _, _, hnc1, hnc2, _⟩ := HT1.out.own.cells (by simpa using HFL.out)
  clear HT0 c0 c3 c6 c7 c8 c9 c10 c11 c12 HLL
  rw [List.nil_append] at HT1 hnc1
  obtain ⟨P, hP⟩ : ∃ P, n * m + 1 = P := ⟨_, rfl⟩
  have HPE := Lib.hid hP
  rw [hP] at HP0 hP65 HFW
  have HPP : Hid (∀ i, i ≤ 3 → P ^ i ≤ 274625) := fun i hi => pow_le hP65 hi
  obtain ⟨FL, hFL⟩ : ∃ FL, F.length = FL := ⟨_, rfl⟩
  have HFE := Lib.hid hFL
  have HT2 : Hid (Tn w p n S R m S2 R2 k fv wv F W (.slice (some ⟨ng, 0, none⟩) FL nc) (trI n m W F 0) w') := by
    have := HT1.out
    rw [hFL] at this
    exact this
  rw [List.nil_append, hFL]
  rw [hFL] at hnc1 hpow HFW HFL
  unfold maxLen at hnc2
  clear HT1 hFL hP
  go_wp2_with fail
  go_loopw [18, 4, 5, 6] (fun q t _ _ wr => ∃ (i st : Nat), i ≤ k ∧ q = .int .i64 (i : Int) ∧ t = .int .i64 (st : Int) ∧ Hid (st = P ^ i) ∧ Hid (Tn w p n S R m S2 R2 k fv wv F W (.slice (some ⟨ng, 0, none⟩) FL nc) (trI n m W F i) wr)) (fun q _ _ _ _ => k - (intOf q).toNat)
  case atStart => exact ⟨0, 1, by omega, rfl, rfl, by show _ = _; rw [Nat.pow_zero], HT2⟩
  case round =>
    clear HT2
    obtain ⟨i, st, hi, rfl, rfl, HST, HT⟩ := hrel
    by_cases hlt : i < k
    · have hiI : (i : Int) < (k : Int) := by omega
      have hst0 : 0 < st := by rw [HST.out]; exact Nat.pow_pos HP0.out
      have hst1 : st ≤ 274625 := by rw [HST.out]; exact HPP.out i (by omega)
      have HNX : Hid (trI n m W F (i + 1) = trS n m W st (trI n m W F i) FL) := by show _ = _; rw [HST.out, ← HPE.out, ← HFE.out]; rfl
      have HLN : Hid ((trI n m W F i).length = FL) := by show _ = _; rw [trI_len, HFE.out]
      generalize trI n m W F i = NI at *
      go_wp2_with fail
      obtain ⟨wo, hwo⟩ : ∃ wo, wo = wr := ⟨_, rfl⟩
      subst hwo
      go_loopw [22, 5, 6] (fun q _ _ wr => ∃ (s : Nat), s ≤ FL ∧ q = .int .i64 (s : Int) ∧ Hid (Tn w p n S R m S2 R2 k fv wv F W (.slice (some ⟨ng, 0, none⟩) FL nc) (trS n m W st NI s) wr)) (fun q _ _ _ => FL - (intOf q).toNat)
      case atStart => exact ⟨0, by omega, rfl, HT⟩
      case round =>
        clear HT
        obtain ⟨s, hs, rfl, HT⟩ := hrel
        by_cases hlt2 : s < FL
        · have hsI : (s : Int) < (FL : Int) := by omega
          obtain ⟨a, ha⟩ : ∃ a, s / st = a := ⟨_, rfl⟩
          obtain ⟨d, hd⟩ : ∃ d, a % P = d := ⟨_, rfl⟩
          have haI : (s : Int) / (st : Int) = (a : Int) := by rw [← ha]; exact (Int.natCast_ediv s st).symm
          have haT : (s : Int).tdiv (st : Int) = (a : Int) := by rw [← ha]; exact (Int.ofNat_tdiv s st).symm
          have hdI : (a : Int) % (P : Int) = (d : Int) := by rw [← hd]; exact (Int.natCast_emod a P).symm
          have hdT : (a : Int).tmod (P : Int) = (d : Int) := by rw [← hd]; exact (Int.ofNat_tmod a P).symm
          have has : a ≤ s := by rw [← ha]; exact Nat.div_le_self _ _
          have hdP : d < P := by rw [← hd]; exact Nat.mod_lt _ HP0.out
          have hP0n : ¬ (P : Int) = 0 := by have := HP0.out; omega
          have hst0n : ¬ (st : Int) = 0 := by omega
          have HAD : Hid (s / st % (n * m + 1) = d) := by show _ = _; rw [HPE.out, ha, hd]
          have HSN : Hid (trS n m W st NI (s + 1) = if keepB n m W st s then trS n m W st NI s else clrN (trS n m W st NI s) s st (n * m + 1)) := rfl
          have HLS : Hid ((trS n m W st NI s).length = FL) := by show _ = _; rw [trS_len]; exact HLN.out
          have hc7 := HT.out.g.cells.2.2.2.1
          rw [HPE.out] at hc7
          clear ha hd
          by_cases hd0 : d = 0
          · subst hd0
            have HIX : Hid (∀ q, q < P → s + st * q < FL) := fun q hq => by
              have h1 := HAD.out
              rw [HPE.out, HST.out] at h1
              rw [HST.out, HFW.out.1]
              exact dig0_lt HP0.out hlt (by rw [← HFW.out.1]; exact hlt2) h1 hq
            have HJ : Hid (s + st * (n * m) < W.length ∧ W.length ≤ 1000000) := by
              refine ⟨?_, by rw [HFW.out.2]; omega⟩
              rw [HFW.out.2]
              exact HIX.out _ (by have := HPE.out; omega)
            have j1 := fun (sc : Since wr) => HAN.out fv wv s st sc.w (HT.out.g.below sc.below) (HT.out.b.below sc.below) HJ.out.1 HJ.out.2
            have HKB : Hid (keepB n m W st s = ansB n m W s st) := by
              show _ = _
              unfold keepB
              rw [HAD.out]; simp
            generalize ansB n m W s st = r at *
            have J1 := Lib.hid j1
            clear j1 HAD
            have f7 := fun s => Since.cell hc7 s
            cases r
            · have HKE : Hid (trS n m W st NI (s + 1) = clrN (trS n m W st NI s) s st P) := by show _ = _; rw [HSN.out, HKB.out, if_neg (by decide), HPE.out]
              clear HSN HKB
              generalize trS n m W st NI s = NS at *
              go_wp2_with fail
              refine wp_region_since (by kernel_rfl) (by kernel_rfl) ?_
              repeat (go_big_quiet_step ((with_reducible exact Since.call (J1.out _))))
              refine wpQuiet_nil ?_
              intro w1 hb1
              have HT3 := Lib.hid (HT.out.below hb1)
              have hc72 := HT3.out.g.cells.2.2.2.1
              rw [HPE.out] at hc72
              clear hb1 f7 J1
              go_wp2_with fail
              obtain ⟨wo2, hwo2⟩ : ∃ wo2, wo2 = wr := ⟨_, rfl⟩
              subst hwo2
              go_loopw [44, 6] (fun q _ wr => ∃ (q0 : Nat), q0 ≤ P ∧ q = .int .i64 (q0 : Int) ∧ Hid (Tn w p n S R m S2 R2 k fv wv F W (.slice (some ⟨ng, 0, none⟩) FL nc) (clrN NS s st q0) wr)) (fun q _ _ => P - (intOf q).toNat)
              case atStart => exact ⟨0, by omega, rfl, HT3⟩
              case round =>
                clear HT3 HT
                obtain ⟨q0, hq0, rfl, HT⟩ := hrel
                by_cases hlt3 : q0 < P
                · have hqI : (q0 : Int) < (P : Int) := by omega
                  have hix := HIX.out q0 hlt3
                  have hcl := HT.out.cell (j := s + st * q0) (by rw [clrN_len, HLS.out]; exact hix)
                  have HTS : Hid (Tn w p n S R m S2 R2 k fv wv F W (.slice (some ⟨ng, 0, none⟩) FL nc) (clrN NS s st (q0 + 1)) (wr.setCell ⟨ng, s + st * q0, none⟩ (.bool false))) := HT.out.set (by rw [clrN_len, HLS.out]) _ _
                  have hsq : (st : Int) * (q0 : Int) = ((st * q0 : Nat) : Int) := by rw [Int.natCast_mul]
                  obtain ⟨sq, hsqe⟩ : ∃ sq, st * q0 = sq := ⟨_, rfl⟩
                  rw [hsqe] at hsq hix hcl HTS
                  obtain ⟨hcl1, hcl2⟩ := hcl
                  generalize (clrN NS s st q0).getD (s + sq) false = b0 at *
                  have hixI : (s : Int) + (sq : Int) < (FL : Int) := by omega
                  clear hsqe
                  go_wp2_with fail
                  go_roundw
                  case rel => exact ⟨q0 + 1, by omega, by go_num, HTS⟩
                  case measure => simp [intOf]; omega
                · obtain rfl : q0 = P := by omega
                  go_wp2_with fail
                  go_roundw
                  case rel => exact ⟨s + 1, by omega, by go_num, by rw [HKE.out]; exact HT.out⟩
                  case measure => simp [intOf]; omega
            · have HKE : Hid (trS n m W st NI (s + 1) = trS n m W st NI s) := by show _ = _; rw [HSN.out, HKB.out, if_pos rfl]
              clear HSN HKB
              go_wp2_with fail
              refine wp_region_since (by kernel_rfl) (by kernel_rfl) ?_
              repeat (go_big_quiet_step ((with_reducible exact Since.call (J1.out _))))
              refine wpQuiet_nil ?_
              intro w1 hb1
              have HT3 := Lib.hid (HT.out.below hb1)
              clear hb1 f7 J1
              go_wp2_with fail
              go_roundw
              case rel => exact ⟨s + 1, by omega, by go_num, by rw [HKE.out]; exact HT3.out⟩
              case measure => simp [intOf]; omega
          · have HKE : Hid (trS n m W st NI (s + 1) = trS n m W st NI s) := by
              show _ = _
              rw [HSN.out, if_pos]
              unfold keepB
              rw [HAD.out, decide_eq_true hd0]; rfl
            have hdb : ((d : Int) != 0) = true := by simpa using hd0
            clear HSN HAD
            have f7 := fun s => Since.cell hc7 s
            go_wp2_with fail
            refine wp_region_since (by kernel_rfl) (by kernel_rfl) ?_
            repeat (go_big_quiet_step (fail))
            refine wpQuiet_nil ?_
            intro w1 hb1
            have HT3 := Lib.hid (HT.out.below hb1)
            clear hb1 f7
            go_wp2_with fail
            go_roundw
            case rel => exact ⟨s + 1, by omega, by go_num, by rw [HKE.out]; exact HT3.out⟩
            case measure => simp [intOf]; omega
        · obtain rfl : s = FL := by omega
          have hc7 := HT.out.g.cells.2.2.2.1
          rw [HPE.out] at hc7
          have hsP : (st : Int) * (P : Int) = ((st * P : Nat) : Int) := by rw [Int.natCast_mul]
          have HPN : Hid (st * P = P ^ (i + 1)) := by show _ = _; rw [HST.out, Nat.pow_succ]
          have hsPb : st * P ≤ 274625 := by rw [HPN.out]; exact HPP.out _ (by omega)
          obtain ⟨sP, hsPe⟩ : ∃ sP, st * P = sP := ⟨_, rfl⟩
          rw [hsPe] at hsP hsPb HPN
          clear hsPe
          go_wp2_with fail
          go_roundw
          case rel => exact ⟨i + 1, sP, by omega, by go_num, rfl, HPN, by rw [HNX.out]; exact HT.out⟩
          case measure => simp [intOf]; omega
    · obtain rfl : i = k := by omega
      have hc9 := HT.out.g.cells.2.2.2.2.2.1
      have HN : Hid (BoolsAt wr (.slice (some ⟨ng, 0, none⟩) FL nc) (turnU n m i F W)) := HT.out.own.bools (by rw [trI_len, HFE.out]; exact HFL.out)
      have HE1 := Lib.hid (HEQ.out _ _ _ _ wr HN.out HT.out.b (by rw [turnU_len, HFE.out, HFW.out.2]))
      obtain ⟨RES, hres⟩ : ∃ r, decide (turnU n m i F W = W) = r := ⟨_, rfl⟩
      rw [hres] at HE1
      have HRES := Lib.hid hres
      clear hres
      go_wp2_with fail
      refine HE1.out.mono ?_; rintro e w1 ⟨rfl, hb1⟩
      have HT3 := Lib.hid (HT.out.below hb1)
      have HN3 := Lib.hid (HN.out.below hb1)
      have HF : Hid (TurnP w p n S R m S2 R2 i F W (.returned (.bool (!RES))) (w1.setCell ⟨p, 9, none⟩ (.slice (some ⟨ng, 0, none⟩) FL nc))) := by
        have hfk := HT3.out.f.kept (w' := w1.setCell ⟨p, 9, none⟩ (.slice (some ⟨ng, 0, none⟩) FL nc)) (fun j hj _ => Below.heap_setCell _ _ _ _ (fun e => HNE.out.1 (by rw [hj, e]))) (by simp)
        have hnk := HN3.out.kept (w' := w1.setCell ⟨p, 9, none⟩ (.slice (some ⟨ng, 0, none⟩) FL nc)) (fun j hj _ => Below.heap_setCell _ _ _ _ (fun e => by
          have h1 := (HT3.out.own.lt ng rfl).1
          have h2 : ng = j := by simpa [Value.ownBlock] using hj
          have h3 : j = p := e
          have := HT3.out.pl
          omega)) (by simp)
        refine ⟨by rw [HRES.out], ⟨fv, _, HT3.out.g.setW _, hfk, hnk, HNE.out.1, fun e => ?_⟩, ?_, fv, _, HFV.out, HT3.out.g.setW _, hfk, hnk, fun j hj => ?_⟩
        · have h1 := (HT3.out.own.lt ng rfl).1
          have h2 : ng = p := by simpa [Value.ownBlock] using e
          have := HT3.out.pl
          omega
        · have ho := HT3.out.old
          exact ⟨ho.os, ho.tape, ho.output, by simpa using ho.size, fun b hb hne => (Below.heap_setCell _ _ _ _ (by simpa using hne)).trans (ho.block b hb)⟩
        · have h1 := (HT3.out.own.lt ng rfl).1
          have h2 : ng = j := by simpa [Value.ownBlock] using hj
          omega
      obtain ⟨d0, d3, d6, d7, d8, d9, d10, d11, d12⟩ := HT3.out.g.cells
      clear hb1 d0 d3 d6 d7 d8
      cases RES
      all_goals
        go_wp2_with fail
        go_ret
        exact HF.out
end Go.Proofs.YtofmagiahmmmgaaGreatDoor

namespace Go.Proofs.YtofmagiahmmmgaaGreatDoor
open Go.RowKit
set_option linter.unusedVariables false
set_option maxRecDepth 100000
/-- Two lists that are built. -/
structure Lys (w : World) (v u : Value) (A B : List Nat) (wr : World) : Prop where
  a : Own w.heap.size wr v A
  b : Own w.heap.size wr u B
  ne : v.ownBlock ≠ u.ownBlock
  old : Below w.heap.size w wr
section
variable {w wr w' : World} {v u v' : Value} {A B A' B' : List Nat}
theorem Own.blockN {B : Nat} {w : World} {v : Value} {L : List Nat} (h : Own B w v L) : ∃ k, v.ownBlock = some k ∧ B ≤ k ∧ k < w.heap.size := by
  obtain ⟨g, cap, rfl, h1, h2, _⟩ := h.cells
  exact ⟨g, rfl, h1, h2⟩
theorem Lys.pushA (h : Lys w v u A B wr) (ho : Own w.heap.size w' v' A') (hg : wr.grownBy w' v.ownBlock) (hat : v'.ownBlock = v.ownBlock ∨ ∃ k, v'.ownBlock = some k ∧ wr.heap.size ≤ k) : Lys w v' u A' B w' := by
  obtain ⟨k, hk, hk1, hk2⟩ := h.b.blockN
  obtain ⟨j, hj, hj1, hj2⟩ := h.a.blockN
  refine ⟨ho, h.b.kept (fun i hi hl => hg.block i hl (fun e => h.ne (e.symm.trans hi.symm))) hg.size, ?_, h.old.grown hg h.old.size (fun i hi => by rw [hj] at hi; injection hi with hi; omega)⟩
  rcases hat with e | ⟨i, e, hi⟩
  · rw [e]; exact h.ne
  · rw [e, hk]; intro e2; injection e2 with e2; omega
theorem Lys.swap (h : Lys w v u A B wr) : Lys w u v B A wr := ⟨h.b, h.a, fun e => h.ne e.symm, h.old⟩
end
/-- One number is appended to a slice of the call's own; the new one lies where it lay, or in a new block. -/
theorem wpList_ownN1 {ops : Array Oper} {rest : List Oper} {o : Oper} {a : Act} {Q : Exit → Act → World → Prop} {B : Nat} {w : World} {v : Value} {L : List Nat}
    (hown : Own B w v L) (hL : L.length ≤ 2000000) (hgd : o.guard = none) (s x : Operand)
    (ho : o.op = .call { callee := .builtin .append, args := #[s, x], argTypes := #[33, 33] }) (y : Nat) (b : Nat) (hb : w.heap.size = b)
    (hs : a.eval s = v) (hx : a.eval x = .slice (some ⟨b, 0, none⟩) 1 1)
    (h : ∀ v' w', Own B w' v' (L ++ [y]) → w.grownBy w' v.ownBlock → (v'.ownBlock = v.ownBlock ∨ ∃ k, v'.ownBlock = some k ∧ w.heap.size ≤ k) → wpList Tryz.prog ops Q rest (a.put o.dst v') w') :
    wpList Tryz.prog ops Q (o :: rest) a (w.alloc (.cells #[.int .i64 (y : Int)] 3)) := by
  subst hb
  obtain ⟨i, hi, hz, h1, h2⟩ := info_parts natInfo3
  have hbase : B ≤ w.heap.size := hown.low
  refine wpList_append_own_at _ hgd s x 33 ho B 3 i (.int .i64 0) 1 8 Tryz.underlying33 hi hz h1 h2 rfl (by decide) v L.length _ hs (hown.own.alloc _) ⟨w.heap.size, 0, none⟩ 1 1 [.int .i64 (y : Int)] hx rfl ?_ ?_ ?_ ?_ ?_ ?_
  · intro j u hj
    match j, hj with
    | 0, hj => simp at hj; subst hj; simp [Addr.add]
  · intro u hu
    simp at hu; subst hu; rfl
  · unfold maxLen; omega
  · omega
  · simp; omega
  · intro v' w' h2 h3 h4 h5
    refine h v' w' ⟨?_, ?_, ?_⟩ ?_ ?_
    · simpa using h2
    · intro e
      exact hown.ne (h4.1 e).1
    · have := h3.size
      simp at this
      omega
    · refine ⟨h3.os, h3.tape, h3.output, ?_, fun k hk hne => ?_⟩
      · have := h3.size
        simp at this
        omega
      · rw [h3.block k (by simp; omega) hne]
        exact Below.heap_alloc _ _ _ hk
    · rcases h5 with e | e
      · exact .inl e
      · exact .inr ⟨_, e, by simp⟩
/-- What listsAt returns. -/
def LysP (A B : List Nat) (w : World) (e : Ending) (w' : World) : Prop := ∃ v u, e = .returned (.tuple #[v, u]) ∧ NumsAt w' v A ∧ NumsAt w' u B ∧ Below w.heap.size w w'
set_option maxHeartbeats 1000000 in
theorem listsAt_any (p n m k : Nat) (S R S2 R2 : ByteArray) (fv wv : Value) (s : Nat) (w : World) (hG : PebG w p n S R m S2 R2 k fv wv) (hk3 : k ≤ 3) (hn : n ≤ 8) (hm : m ≤ 8) (hm0 : 0 < m) (hs : s ≤ 1000000) :
    Calls Tryz.prog 56 #[.pointer (some ⟨p, 0, none⟩), .int .i64 (s : Int)] w (LysP (lyA (n * m + 1) m k s) (lyB (n * m + 1) m k s) w) := by
  have hplt := hG.lt
  obtain ⟨c0, c3, c6, c7, c8, c9, c10, c11, c12⟩ := hG.cells
  have hP65 := pairs_le hn hm
  have hP0 : 0 < n * m + 1 := by omega
  obtain ⟨P, hP⟩ : ∃ P, n * m + 1 = P := ⟨_, rfl⟩
  rw [hP] at c7 hP65 hP0 ⊢
  obtain ⟨RA, hra⟩ : ∃ r, lyA P m k s = r := ⟨_, rfl⟩
  obtain ⟨RB, hrb⟩ : ∃ r, lyB P m k s = r := ⟨_, rfl⟩
  have HRES : Hid (lyA P m k s = RA ∧ lyB P m k s = RB) := ⟨hra, hrb⟩
  rw [hra, hrb]
  have HP0 : Hid (Lys w (.slice (some ⟨w.heap.size, 0, none⟩) 0 0) (.slice (some ⟨w.heap.size + 1, 0, none⟩) 0 0) [] [] ((w.alloc (.cells #[] 3)).alloc (.cells #[] 3))) := by
    refine ⟨(Own.lit0 _ _ (Nat.le_refl _)).below ((Below.refl _ _).alloc (Nat.le_refl _) _), ?_, by simp [Value.ownBlock], ((Below.refl _ _).alloc (Nat.le_refl _) _).alloc (by simp) _⟩
    have := Own.lit0 w.heap.size (w.alloc (.cells #[] 3)) (by simp)
    simpa using this
  clear hP hra hrb hG c8 c9 c10 c11 c12 c0
  go_enter Tryz.func56, Tryz.ntmps56
  go_wp2_with fail
  go_loopw [15, 1, 6, 7, 8] (fun q z v u _ wr => ∃ (j sj : Nat) (A B : List Nat), j ≤ k ∧ q = .int .i64 (j : Int) ∧ z = .int .i64 (sj : Int) ∧ sj ≤ 1000000 ∧ Hid (Lys w v u A B wr) ∧ Hid (A ++ lyA P m (k - j) sj = RA ∧ B ++ lyB P m (k - j) sj = RB ∧ A.length ≤ j ∧ B.length ≤ j)) (fun q _ _ _ _ _ => k - (intOf q).toNat)
  case atStart => exact ⟨0, s, [], [], by omega, rfl, rfl, hs, HP0, ⟨HRES.out.1, HRES.out.2, Nat.le_refl _, Nat.le_refl _⟩⟩
  case round =>
    clear HP0 HRES
    obtain ⟨j, sj, A, B, hj, rfl, rfl, hsj, HL, HE⟩ := hrel
    have hc7 := (HL.out.old.cell (p := ⟨p, 7, none⟩) hplt).trans c7
    have hc3 := (HL.out.old.cell (p := ⟨p, 3, none⟩) hplt).trans c3
    by_cases hlt : j < k
    · have hjI : (j : Int) < (k : Int) := by omega
      obtain ⟨d, hd⟩ : ∃ d, sj % P = d := ⟨_, rfl⟩
      obtain ⟨q, hq⟩ : ∃ d, sj / P = d := ⟨_, rfl⟩
      have hdP : d < P := by rw [← hd]; exact Nat.mod_lt _ hP0
      have hqs : q ≤ sj := by rw [← hq]; exact Nat.div_le_self _ _
      have hdI : (sj : Int) % (P : Int) = (d : Int) := by rw [← hd]; exact (Int.natCast_emod sj P).symm
      have hdT : (sj : Int).tmod (P : Int) = (d : Int) := by rw [← hd]; exact (Int.ofNat_tmod sj P).symm
      have hqI : (sj : Int) / (P : Int) = (q : Int) := by rw [← hq]; exact (Int.natCast_ediv sj P).symm
      have hqT : (sj : Int).tdiv (P : Int) = (q : Int) := by rw [← hq]; exact (Int.ofNat_tdiv sj P).symm
      have hPn : ¬ (P : Int) = 0 := by omega
      have HKJ : Hid (k - j = (k - (j + 1)) + 1) := by show _ = _; omega
      have HE2 : Hid (A ++ lyA P m (k - (j + 1) + 1) sj = RA ∧ B ++ lyB P m (k - (j + 1) + 1) sj = RB ∧ A.length ≤ j ∧ B.length ≤ j) := by rw [← HKJ.out]; exact HE.out
      clear HE
      rcases Nat.eq_zero_or_pos d with h00 | h00
      · subst h00
        have HE3 : Hid (A ++ lyA P m (k - (j + 1)) q = RA ∧ B ++ lyB P m (k - (j + 1)) q = RB ∧ A.length ≤ j + 1 ∧ B.length ≤ j + 1) := by
          have := HE2.out
          unfold lyA lyB at this
          rw [hd, hq] at this
          exact ⟨this.1, this.2.1, by omega, by omega⟩
        clear hd hq HE2
        go_wp2_with fail
        go_roundw
        case rel => exact ⟨j + 1, q, A, B, by omega, by go_num, rfl, by omega, HL, HE3⟩
        case measure => simp [intOf]; omega
      · obtain ⟨d1, rfl⟩ : ∃ d1, d = d1 + 1 := ⟨d - 1, by omega⟩
        obtain ⟨x, hx⟩ : ∃ x, d1 / m = x := ⟨_, rfl⟩
        obtain ⟨y, hy⟩ : ∃ x, d1 % m = x := ⟨_, rfl⟩
        have HE3 : Hid ((A ++ [x]) ++ lyA P m (k - (j + 1)) q = RA ∧ (B ++ [y]) ++ lyB P m (k - (j + 1)) q = RB ∧ (A ++ [x]).length ≤ j + 1 ∧ (B ++ [y]).length ≤ j + 1) := by
          have := HE2.out
          unfold lyA lyB at this
          rw [hd, hq, if_pos (Nat.succ_pos d1), if_pos (Nat.succ_pos d1), Nat.add_sub_cancel, hx, hy] at this
          refine ⟨by rw [List.append_assoc]; exact this.1, by rw [List.append_assoc]; exact this.2.1, by simp; omega, by simp; omega⟩
        have hd1 : ((d1 + 1 : Nat) : Int) - 1 = (d1 : Int) := by omega
        have hxI : (d1 : Int) / (m : Int) = (x : Int) := by rw [← hx]; exact (Int.natCast_ediv d1 m).symm
        have hxT : (d1 : Int).tdiv (m : Int) = (x : Int) := by rw [← hx]; exact (Int.ofNat_tdiv d1 m).symm
        have hyI : (d1 : Int) % (m : Int) = (y : Int) := by rw [← hy]; exact (Int.natCast_emod d1 m).symm
        have hyT : (d1 : Int).tmod (m : Int) = (y : Int) := by rw [← hy]; exact (Int.ofNat_tmod d1 m).symm
        have hmn : ¬ (m : Int) = 0 := by omega
        have HLL : Hid (A.length ≤ 2000000 ∧ B.length ≤ 2000000) := ⟨by have := HE2.out.2.2.1; omega, by have := HE2.out.2.2.2; omega⟩
        have hxb : x ≤ d1 := by rw [← hx]; exact Nat.div_le_self _ _
        have hyb : y < m := by rw [← hy]; exact Nat.mod_lt _ hm0
        clear hd hq hx hy HE2
        go_wp2_with (first | (at_builtin; refine wpList_ownN1 HL.out.a HLL.out.1 rfl (.tmp 25) (.tmp 34) rfl x _ rfl rfl rfl ?_; intro v' w' ho hg hat; have HP2 := Lib.hid (HL.out.pushA ho hg hat); have hc72 := (HP2.out.old.cell (p := ⟨p, 7, none⟩) hplt).trans c7; have hc32 := (HP2.out.old.cell (p := ⟨p, 3, none⟩) hplt).trans c3; clear ho hg hat) | (at_builtin; refine wpList_ownN1 HP2.out.b HLL.out.2 rfl (.tmp 36) (.tmp 45) rfl y _ rfl rfl rfl ?_; intro v'2 w'2 ho hg hat; have HP3 := Lib.hid ((HP2.out.swap.pushA ho hg hat).swap); have hc73 := (HP3.out.old.cell (p := ⟨p, 7, none⟩) hplt).trans c7; clear ho hg hat) | fail)
        go_roundw
        case rel => exact ⟨j + 1, q, A ++ [x], B ++ [y], by omega, by go_num, rfl, by omega, HP3, HE3⟩
        case measure => simp [intOf]; omega
    · obtain rfl : j = k := by omega
      have HF : Hid (LysP RA RB w (.returned (.tuple #[u6, u7])) wr) := by
        have h := HE.out
        rw [Nat.sub_self] at h
        unfold lyA lyB at h
        rw [List.append_nil, List.append_nil] at h
        exact ⟨u6, u7, rfl, by rw [← h.1]; exact HL.out.a.nums, by rw [← h.2.1]; exact HL.out.b.nums, HL.out.old⟩
      go_wp2_with fail
      go_ret2
      exact HF.out
end Go.Proofs.YtofmagiahmmmgaaGreatDoor
