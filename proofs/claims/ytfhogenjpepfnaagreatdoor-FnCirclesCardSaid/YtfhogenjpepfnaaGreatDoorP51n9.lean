/- Contracts of the program's functions and what they compute: part 9. Conditions: those that each theorem states. -/
import Derived.Test.YtfhogenjpepfnaaGreatDoorP51n8
import Derived.Deep.RegionHeld3
namespace Go.Proofs.YtfhogenjpepfnaaGreatDoor
open Go.RowKit
set_option linter.unusedVariables false
set_option maxRecDepth 100000
/-- What CompactFunc leaves. -/
def CompP (w : World) (blk n cap : Nat) (f : Nat → Value × List Nat) (e : Ending) (w' : World) : Prop :=
  e = .returned (.slice (some ⟨blk, 0, none⟩) (keptP f n).length cap) ∧ (∀ (j : Nat) (h : j < (keptP f n).length), w'.cell? ⟨blk, j, none⟩ = some (keptP f n)[j].1 ∧ w'.frozen? ⟨blk, j, none⟩ = false) ∧ Off (fun b => b = blk) w w'
/-- The second loop: m have been looked at, k are kept. -/
structure Ci (f g : Nat → Value × List Nat) (m k : Nat) : Prop where
  len : (keptP f m).length = k
  lt : k < m
  low : ∀ (j : Nat) (h : j < (keptP f m).length), g j = (keptP f m)[j]
  high : ∀ j, k ≤ j → g j = f j
theorem Ci.start {f : Nat → Value × List Nat} {k : Nat} (h : ∀ i, i < k → i = 0 ∨ (f i).2 ≠ (f (i - 1)).2) (h0 : 0 < k) (he : (f k).2 = (f (k - 1)).2) : Ci f f (k + 1) k := by
  have e : keptP f (k + 1) = (List.range k).map f := by
    rw [← keptP_all f k h, keptP]
    rw [if_neg]
    rintro (e | e)
    · omega
    · exact e he
  refine ⟨by rw [e]; simp, by omega, fun j hj => ?_, fun j _ => rfl⟩
  have hj2 : j < k := by rw [e] at hj; simpa using hj
  simp [e]
theorem Ci.skip {f g : Nat → Value × List Nat} {m k : Nat} (h : Ci f g m k) (h0 : 0 < m) (he : (f m).2 = (f (m - 1)).2) : Ci f g (m + 1) k := by
  have e : keptP f (m + 1) = keptP f m := by
    rw [keptP, if_neg]
    rintro (e | e)
    · omega
    · exact e he
  refine ⟨by rw [e]; exact h.len, by have := h.lt; omega, fun j hj => ?_, h.high⟩
  have hj2 : j < (keptP f m).length := by rw [← e]; exact hj
  have := h.low j hj2
  simp only [e]
  exact this
theorem Ci.keep {f g : Nat → Value × List Nat} {m k : Nat} (h : Ci f g m k) (he : (f m).2 ≠ (f (m - 1)).2) : Ci f (setF g k (f m)) (m + 1) (k + 1) := by
  have e : keptP f (m + 1) = keptP f m ++ [f m] := by rw [keptP, if_pos (.inr he)]
  have hl := h.len
  refine ⟨by rw [e]; simp [hl], by have := h.lt; omega, fun j hj => ?_, fun j hj => ?_⟩
  · have hj2 : j < k + 1 := by rw [e] at hj; simp [hl] at hj; exact hj
    unfold setF
    by_cases hjk : j = k
    · subst hjk
      rw [if_pos rfl]
      simp [e, hl]
    · rw [if_neg hjk]
      have hj3 : j < (keptP f m).length := by omega
      have := h.low j hj3
      simp only [e]
      rw [List.getElem_append_left hj3]
      exact this
  · unfold setF
    rw [if_neg (by omega)]
    exact h.high j (by omega)
theorem frozen_setCells' (b : Nat) : ∀ (vs : List Value) (o : Nat) (w : World) (x : Addr), (w.setCells b o vs).frozen? x = w.frozen? x
  | [], _, _, _ => rfl
  | v :: vs, o, w, x => by
    show ((w.setCell ⟨b, o, none⟩ v).setCells b (o + 1) vs).frozen? x = _
    rw [frozen_setCells' b vs (o + 1), World.frozen?_setCell]
theorem off_setCells' (w : World) (b : Nat) : ∀ (o : Nat) (vs : List Value), Off (fun x => x = b) w (w.setCells b o vs)
  | o, [] => Off.refl _ _
  | o, v :: vs => by
    have h1 : Off (fun x => x = b) w (w.setCell ⟨b, o, none⟩ v) := ⟨rfl, rfl, rfl, by simp [World.setCell], fun c hc hn => Below.heap_setCell w ⟨b, o, none⟩ v c hn⟩
    exact h1.trans (off_setCells' _ b (o + 1) vs) (fun c hc => .inl hc)
set_option maxHeartbeats 4000000 in
theorem CompactFunc_any (w : World) (blk n cap : Nat) (f : Nat → Value × List Nat) (hl : blk < w.heap.size) (hn : n ≤ 1000) (hc : n ≤ cap) (hcm : cap ≤ maxLen) (hnums : ∀ j, j < n → NumsAt w (f j).1 (f j).2 ∧ (f j).1.ownBlock ≠ some blk) (h : Cp w blk n w f) :
    Calls Tryz.prog 82 #[.slice (some ⟨blk, 0, none⟩) n cap, .func (.func 47) #[] #[]] w (CompP w blk n cap f) := by
  have HN := Lib.hid hnums
  have HC := Lib.hid h
  have HEQ : Hid (∀ (i j : Nat) (W : World), i < n → j < n → Off (fun b => b = blk) w W → Calls Tryz.prog 47 #[(f i).1, (f j).1] W fun e w' => e = .returned (.bool (decide ((f i).2 = (f j).2))) ∧ Below W.heap.size W w') := fun i j W hi hj hW => by
    refine (sEqual_any (f i).1 (f j).1 (f i).2 (f j).2 W ((HN.out i hi).1.off hW (fun k hk e => (HN.out i hi).2 (by rw [hk, e]))) ((HN.out j hj).1.off hW (fun k hk e => (HN.out j hj).2 (by rw [hk, e])))).mono fun e w' ⟨he, q, hq⟩ => ⟨he, by rw [hq]; exact below_drewN' W q⟩
  unfold maxLen at hcm
  clear hnums h
  by_cases h2 : n < 2
  · have HE : Hid (keptP f n = (List.range n).map f) := keptP_all f n (fun i hi => .inl (by omega))
    have h2I : (n : Int) < 2 := by omega
    clear HEQ HN
    go_enter Tryz.func82, Tryz.ntmps82
    go_wp2_with fail
    go_ret
    refine ⟨by rw [HE.out, List.length_map, List.length_range]; rfl, fun j hj => ?_, Off.refl _ _⟩
    have hj2 : j < n := by rw [HE.out] at hj; simpa using hj
    have e : (keptP f n)[j] = f j := by simp [HE.out]
    rw [e]
    exact ⟨HC.out.cell j hj2, HC.out.frz j hj2⟩
  · have h2I : ¬ (n : Int) < 2 := by omega
    go_enter Tryz.func82, Tryz.ntmps82
    go_wp2_with fail
    go_loopw [5] (fun i wr => ∃ k : Nat, 1 ≤ k ∧ k ≤ n ∧ i = .int .i64 (k : Int) ∧ Hid (Cp w blk n wr f) ∧ Hid (∀ i, i < k → i = 0 ∨ (f i).2 ≠ (f (i - 1)).2)) (fun i _ => n - (intOf i).toNat)
    case atStart => exact ⟨1, by omega, by omega, rfl, HC.out, fun i hi => .inl (by omega)⟩
    case round =>
      clear HC
      obtain ⟨k, hk1, hk, rfl, HC, HK⟩ := hrel
      by_cases hlt : k < n
      · have hltI : (k : Int) < (n : Int) := by omega
        have c1 := HC.out.cell k hlt
        have c0 := HC.out.cell (k - 1) (by omega)
        have hk1I : (k : Int) - 1 = ((k - 1 : Nat) : Int) := by omega
        have hkl : k - 1 < n := by omega
        have J := Lib.hid (fun s : Since wr => HEQ.out k (k - 1) s.w hlt hkl (HC.out.off.trans (Off.of_below (F := fun _ => False) s.below) (fun _ e => e.elim)))
        obtain ⟨x, hx⟩ : ∃ x, f k = x := ⟨_, rfl⟩
        obtain ⟨y, hy⟩ : ∃ x, f (k - 1) = x := ⟨_, rfl⟩
        have HXY : Hid (f k = x ∧ f (k - 1) = y) := ⟨hx, hy⟩
        rw [hx] at c1 J
        rw [hy] at c0 J
        obtain ⟨c, hcc⟩ : ∃ c, decide (x.2 = y.2) = c := ⟨_, rfl⟩
        have HCC := Lib.hid hcc
        rw [hcc] at J
        obtain ⟨k', hk'⟩ : ∃ k', k - 1 = k' := ⟨_, rfl⟩
        rw [hk'] at c0 hk1I hkl
        clear hx hy hcc hk'
        go_upto_region 6 with fail
        have C0 := fun s => Since.cell c0 s
        have C1 := fun s => Since.cell c1 s
        refine wp_region_since (by kernel_rfl) (by kernel_rfl) ?_
        repeat (go_big_quiet_step (first | (with_reducible exact Since.call (J.out _)) | (with_reducible exact C0 _) | (with_reducible exact C1 _)))
        refine wpQuiet_nil ?_
        intro w1 hb
        clear J C0 C1 c0 c1
        have HC1 := Lib.hid (HC.out.below hl hb)
        clear hb
        cases c
        · have HK2 : Hid (∀ i, i < k + 1 → i = 0 ∨ (f i).2 ≠ (f (i - 1)).2) := fun i hi => by
            by_cases hik : i = k
            · refine .inr ?_
              subst hik
              rw [HXY.out.1, HXY.out.2]
              exact of_decide_eq_false HCC.out
            · exact HK.out i (by omega)
          clear HK HC HXY HCC
          go_wp2_with fail
          go_roundw
          case rel => exact ⟨k + 1, by omega, by omega, by go_num, HC1.out, HK2.out⟩
          case measure => simp [intOf]; omega
        · have HI : Hid (Ci f f (k + 1) k) := Ci.start HK.out (by omega) (by rw [HXY.out.1, HXY.out.2]; exact of_decide_eq_true HCC.out)
          clear HK HC HXY HCC hk1I hkl
          have hkc : (k : Int) ≤ (cap : Int) := by omega
          go_wp2_with fail
          go_loopw [5, 7] (fun a b wr => ∃ (kk k2 : Nat) (g : Nat → Value × List Nat), a = .int .i64 (kk : Int) ∧ b = .int .i64 (k2 : Int) ∧ 1 ≤ k2 ∧ k + k2 ≤ n ∧ Hid (Cp w blk n wr g) ∧ Hid (Ci f g (k + k2) kk)) (fun _ b _ => n - k - (intOf b).toNat)
          case atStart => exact ⟨k, 1, f, rfl, rfl, by omega, by omega, HC1.out, HI.out⟩
          case round =>
            clear HC1 HI
            obtain ⟨kk, k2, g, rfl, rfl, h1, hle, HC, HI⟩ := hrel
            have hkk := HI.out.lt
            by_cases hlt2 : k + k2 < n
            · have hltI : (k2 : Int) < ((n - k : Nat) : Int) := by omega
              have c1 := HC.out.cell (k + k2) hlt2
              have c0 := HC.out.cell (k + (k2 - 1)) (by omega)
              have ck := HC.out.cell kk (by omega)
              have fk := HC.out.frz kk (by omega)
              rw [HI.out.high (k + k2) (by omega)] at c1
              rw [HI.out.high (k + (k2 - 1)) (by omega)] at c0
              have J := Lib.hid (fun s : Since wr => HEQ.out (k + k2) (k + (k2 - 1)) s.w hlt2 (by omega) (HC.out.off.trans (Off.of_below (F := fun _ => False) s.below) (fun _ e => e.elim)))
              have HEX : Hid (k + k2 - 1 = k + (k2 - 1)) := by show _ = _; omega
              have hk2I : (k2 : Int) - 1 = ((k2 - 1 : Nat) : Int) := by omega
              have hk2l : k2 - 1 < n - k := by omega
              obtain ⟨x, hx⟩ : ∃ x, f (k + k2) = x := ⟨_, rfl⟩
              obtain ⟨y, hy⟩ : ∃ x, f (k + (k2 - 1)) = x := ⟨_, rfl⟩
              have HXY : Hid (f (k + k2) = x ∧ f (k + k2 - 1) = y) := ⟨hx, by rw [HEX.out]; exact hy⟩
              rw [hx] at c1 J
              rw [hy] at c0 J
              obtain ⟨old, hold⟩ : ∃ o, (g kk).1 = o := ⟨_, rfl⟩
              rw [hold] at ck
              obtain ⟨c, hcc⟩ : ∃ c, decide (x.2 = y.2) = c := ⟨_, rfl⟩
              have HCC := Lib.hid hcc
              rw [hcc] at J
              obtain ⟨k3, hk3⟩ : ∃ k3, k2 - 1 = k3 := ⟨_, rfl⟩
              rw [hk3] at c0 hk2I hk2l
              clear hx hy hcc hold hk3 HEX
              go_upto_region 11 with fail
              have C0 := fun s => Since.cell c0 s
              have C1 := fun s => Since.cell c1 s
              refine wp_region_since (by kernel_rfl) (by kernel_rfl) ?_
              repeat (go_big_quiet_step (first | (with_reducible exact Since.call (J.out _)) | (with_reducible exact C0 _) | (with_reducible exact C1 _)))
              refine wpQuiet_nil ?_
              intro w2 hb
              clear J C0 C1 c0 c1 ck fk
              have HC2 := Lib.hid (HC.out.below hl hb)
              clear hb HC
              cases c
              · have HI2 := Lib.hid (HI.out.keep (by rw [HXY.out.1, HXY.out.2]; exact of_decide_eq_false HCC.out))
                rw [HXY.out.1] at HI2
                have c1 := HC2.out.cell (k + k2) hlt2
                rw [HI.out.high (k + k2) (by omega), HXY.out.1] at c1
                have ck := HC2.out.cell kk (by omega)
                have fk := HC2.out.frz kk (by omega)
                have HC3 := Lib.hid (HC2.out.set (k := kk) (p := x) (by omega))
                obtain ⟨ax, lx, cx, hxs⟩ : ∃ a l c, x.1 = Value.slice a l c := by
                  have h := (HN.out (k + k2) hlt2).1
                  rw [HXY.out.1] at h
                  obtain ⟨a, c, e, _⟩ := h.view
                  exact ⟨a, _, c, e⟩
                rw [hxs] at c1 HC3
                clear hxs
                have hkkI : (kk : Int) < (n : Int) := by omega
                have hk2n : k2 < n - k := by omega
                clear HXY HCC HI HC2
                go_wp2_with fail
                go_roundw
                case rel => exact ⟨kk + 1, k2 + 1, _, by go_num, by go_num, by omega, by omega, HC3.out, HI2.out⟩
                case measure => simp [intOf]; omega
              · have HI2 := Lib.hid (HI.out.skip (by omega) (by rw [HXY.out.1, HXY.out.2]; exact of_decide_eq_true HCC.out))
                clear HXY HCC HI
                go_wp2_with fail
                go_roundw
                case rel => exact ⟨kk, k2 + 1, g, rfl, by go_num, by omega, by omega, HC2.out, HI2.out⟩
                case measure => simp [intOf]; omega
            · have hend : k + k2 = n := by omega
              have hltI : ¬ (k2 : Int) < ((n - k : Nat) : Int) := by omega
              have hkn : kk < n := by omega
              have hcl : ∀ ty, (Builtin.clear_ #[76] ty #[.slice (some ⟨blk, kk, none⟩) (n - kk) (cap - kk)]).run Tryz.prog wr = .ok (.tuple #[]) (wr.setCells blk kk (List.replicate (n - kk) (.slice none 0 0))) :=
                fun ty => Lib.run_clear_slice wr _ 30 ty _ Tryz.underlying76 (fun w => by kernel_rfl) rfl rfl blk kk _ _ (by omega) (fun j hj => by rw [HC.out.cell (kk + j) (by omega)]; rfl) (fun j hj => HC.out.frz (kk + j) (by omega))
              have HF : Hid (CompP w blk n cap f (.returned (.slice (some ⟨blk, 0, none⟩) kk cap)) (wr.setCells blk kk (List.replicate (n - kk) (.slice none 0 0)))) := by
                have hlen := HI.out.len
                have hlow := HI.out.low
                rw [hend] at hlen hlow
                refine ⟨by rw [hlen], fun j hj => ?_, ?_⟩
                · have hjk : j < kk := by omega
                  rw [← hlow j hj]
                  refine ⟨?_, ?_⟩
                  · rw [World.cell?_setCells_out blk _ kk wr ⟨blk, j, none⟩ (fun _ _ => .inl hjk)]
                    exact HC.out.cell j (by omega)
                  · rw [frozen_setCells']
                    exact HC.out.frz j (by omega)
                · exact HC.out.off.trans (off_setCells' wr blk kk _) (fun b hb => .inl hb)
              have hkkc : (kk : Int) ≤ (cap : Int) := by omega
              clear HI HC
              go_wp2_with fail
              go_ret
              exact HF.out
      · obtain rfl : k = n := by omega
        have HE : Hid (keptP f k = (List.range k).map f) := keptP_all f k HK.out
        have hltI : ¬ (k : Int) < (k : Int) := by omega
        clear HK
        go_wp2_with fail
        go_ret
        refine ⟨by rw [HE.out, List.length_map, List.length_range]; rfl, fun j hj => ?_, HC.out.off⟩
        have hj2 : j < k := by rw [HE.out] at hj; simpa using hj
        have e : (keptP f k)[j] = f j := by simp [HE.out]
        rw [e]
        exact ⟨HC.out.cell j hj2, HC.out.frz j hj2⟩
end Go.Proofs.YtfhogenjpepfnaaGreatDoor
