/- Contracts of the program's functions and what they compute: part 11. Conditions: those that each theorem states. -/
import Derived.Test.YtfhogenjpepfnaaGreatDoorP51n10
namespace Go.Proofs.YtfhogenjpepfnaaGreatDoor
open Go.RowKit
set_option linter.unusedVariables false
set_option maxRecDepth 100000
theorem OwnV.frz {B : Nat} {w : World} {g n cap : Nat} {xs : List Value} (h : OwnV B w (.slice (some ⟨g, 0, none⟩) n cap) xs) (j : Nat) : w.frozen? ⟨g, j, none⟩ = false := by
  rcases h.own.2 with ⟨h1, _⟩ | ⟨g', cap', cur, hv, hb, hg, hnc, hcm, hcs, htake⟩
  · cases h1
  · injection hv with e1 e2 e3
    injection e1 with e1
    injection e1 with e4 e5
    subst e4
    simp [World.frozen?, hg]
def pairF (xs : List Value) (ds : List (List Nat)) (j : Nat) : Value × List Nat := (xs.getD j (.slice none 0 0), ds.getD j [])
def listF (l : List (Value × List Nat)) (j : Nat) : Value × List Nat := l.getD j (.slice none 0 0, [])
theorem listF_at {l : List (Value × List Nat)} {j : Nat} (h : j < l.length) : listF l j = l[j] := by unfold listF; simp [h]
/-- The lists that are kept are those that there are, in order. -/
theorem kept_srt {f g : Nat → Value × List Nat} {n : Nat} {ds : List (List Nat)} (hd : ∀ j, j < n → (f j).2 = ds.getD j []) (hl : ds.length = n) (hs : ∀ a b, a < b → b < n → ¬ Col.cmp (g b).2 (g a).2 < 0) (hm : ∀ d, (∃ j, j < n ∧ (g j).2 = d) ↔ ∃ j, j < n ∧ (f j).2 = d) :
    (keptP g n).map (·.2) = Col.srt ds := by
  refine Col.strict_same (keptP_strict g n hs) (Col.strict_srt ds) (fun x => ?_)
  rw [Col.mem_srt]
  constructor
  · intro h
    obtain ⟨p, hp, rfl⟩ := List.mem_map.1 h
    obtain ⟨i, hi, rfl⟩ := keptP_mem g n p hp
    obtain ⟨j, hj, e⟩ := (hm (g i).2).1 ⟨i, hi, rfl⟩
    rw [← e, hd j hj]
    have : j < ds.length := by omega
    simp [this]
  · intro h
    obtain ⟨j, hj, rfl⟩ := List.mem_iff_getElem.1 h
    obtain ⟨i, hi, e⟩ := (hm ds[j]).2 ⟨j, by omega, by rw [hd j (by omega)]; simp [hj]⟩
    obtain ⟨p, hp, e2⟩ := keptP_key g n i hi
    exact List.mem_map.2 ⟨p, hp, by rw [e2, e]⟩
theorem range_keys (l : List (Value × List Nat)) : ((List.range l.length).map fun j => (listF l j).2) = l.map (·.2) := by
  apply List.ext_getElem
  · simp
  · intro i h1 h2
    have hi : i < l.length := by simpa using h1
    simp [listF, hi]
theorem strict_up {l : List (Value × List Nat)} (h : Col.Strict (l.map (·.2))) : ∀ a b, a < b → b < l.length → ¬ Col.cmp (listF l b).2 (listF l a).2 < 0 := by
  intro a b hab hb
  rw [listF_at hb, listF_at (by omega)]
  have h1 := List.pairwise_iff_getElem.1 h a b (by simp; omega) (by simp; omega) hab
  simp only [List.getElem_map] at h1
  have := Col.cmp_anti l[a].2 l[b].2
  omega
theorem cols_at {ds : List (List Nat)} {i : Nat} (h : i < ds.length) : (Col.cols ds).take (i + 1) = (Col.cols ds).take i ++ [Col.rk ds (ds.getD i [])] := by
  have hl : i < (Col.cols ds).length := by rw [Col.cols_len]; exact h
  rw [List.take_succ_eq_append_getElem hl]
  congr 2
  show (List.map (Col.rk ds) ds)[i]'(by simpa using h) = _
  rw [List.getElem_map]
  simp [h]
set_option maxHeartbeats 2000000 in
theorem colouredOf_any (v : Value) (xs : List Value) (ds : List (List Nat)) (w : World) (ho : OwnV 0 w v xs) (hls : ListsAt w xs ds) (hn : xs.length ≤ 100) (h1 : 1 ≤ xs.length) :
    Calls Tryz.prog 63 #[v] w (NewNums w (Col.cols ds)) := by
  obtain ⟨g0, cap0, rfl, _, hg0, hc0, hm0, hcell⟩ := ho.cells
  unfold maxLen at hm0
  obtain ⟨n, hnn⟩ : ∃ n, xs.length = n := ⟨_, rfl⟩
  have hdn : ds.length = n := by rw [← hls.len]; exact hnn
  have HL := Lib.hid hls
  have HCE := Lib.hid hcell
  have HNN := Lib.hid hnn
  have HO0 : Hid (OwnV w.heap.size (w.alloc (.cells #[] 30)) (.slice (some ⟨w.heap.size, 0, none⟩) 0 0) []) := OwnV.lit0 w.heap.size w (Nat.le_refl _)
  have HB0 : Hid (Below w.heap.size w (w.alloc (.cells #[] 30))) := (Below.refl _ _).alloc (Nat.le_refl _) _
  have HCA : Hid (∀ j, j < xs.length → (w.alloc (.cells #[] 30)).cell? ⟨g0, 0 + j, none⟩ = xs[j]?) := fun j hj => by
    rw [Nat.zero_add, ← hcell j hj]
    exact HB0.out.cell (p := ⟨g0, j, none⟩) hg0
  have HLN : Hid (([] : List Value).length + xs.length ≤ 100000) := by show _ ≤ _; simp; omega
  have hnI : n ≤ 100 := by omega
  rw [hnn] at hc0 h1 ⊢
  clear hls hcell hn ho hnn
  go_enter Tryz.func63, Tryz.ntmps63
  go_wp2_with (first | (at_builtin; refine wpList_ownVAll (ys := xs) (off := 0) (g := g0) (cap := cap0) HO0.out HCA.out HL.out.one HLN.out rfl (.tmp 9) (.tmp 10) rfl rfl (by rw [HNN.out]; rfl) ?_; intro v1 w1 ho hg; have HO1 : Hid (OwnV w.heap.size w1 v1 xs) := (by have h := ho; rw [List.nil_append] at h; exact h); have HB1 := Lib.hid (HB0.out.grown hg HB0.out.size (fun k hk => by obtain ⟨k', h1, h2, _⟩ := HO0.out.block; rw [h1] at hk; injection hk with hk; omega)); clear ho hg) | fail)
  obtain ⟨blk, cap1, rfl, hb1, hb2, hb3, hb4, hb5⟩ := HO1.out.cells
  have HF : Hid (∀ j, j < n → NumsAt w1 (pairF xs ds j).1 (pairF xs ds j).2 ∧ (pairF xs ds j).1.ownBlock ≠ some blk) := fun j hj => by
    have hjx : j < xs.length := by rw [HNN.out]; exact hj
    have h := HL.out.at' j hjx
    have e1 : (pairF xs ds j).1 = xs[j] := by unfold pairF; simp [hjx]
    rw [e1]
    refine ⟨h.below HB1.out, fun e => ?_⟩
    rcases h with ⟨h0, _⟩ | ⟨g, o, c, h0, _, _, hg, _⟩
    · rw [h0] at e; cases e
    · rw [h0] at e
      have : g = blk := Option.some.inj e
      omega
  have HC1 : Hid (Cp w1 blk n w1 (pairF xs ds)) := by
    refine ⟨fun j hj => ?_, fun j _ => HO1.out.frz j, Off.refl _ _⟩
    have hjx : j < xs.length := by rw [HNN.out]; exact hj
    rw [hb5 j hjx]
    unfold pairF
    simp [hjx]
  have HSF := Lib.hid (SortFunc_any w1 blk n cap1 (pairF xs ds) hb2 (by omega) HF.out HC1.out)
  rw [HNN.out] at hb3 ⊢
  clear HCA HLN HO0 HB0 hb5
  refine HSF.out.mono ?_; rintro e w2 ⟨rfl, g, hg1, hg2, hg3, hg4⟩
  have HB2 : Hid (Below w.heap.size w w2) := HB1.out.trans (hg1.off.below (by have := HB1.out.size; omega) (fun b hb => by omega))
  have HK : Hid ((keptP g n).map (·.2) = Col.srt ds) := kept_srt (f := pairF xs ds) (fun j hj => rfl) hdn hg3 hg4
  have hl2 := Nat.lt_of_lt_of_le hb2 hg1.off.size
  have HG2 : Hid (∀ j, j < n → NumsAt w2 (g j).1 (g j).2 ∧ (g j).1.ownBlock ≠ some blk) := fun j hj => ⟨(hg2 j hj).1.off hg1.off (fun k hk e => (hg2 j hj).2 (by rw [hk, e])), (hg2 j hj).2⟩
  have HCF := Lib.hid (CompactFunc_any w2 blk n cap1 g hl2 (by omega) hb3 hb4 HG2.out ⟨hg1.cell, hg1.frz, Off.refl _ _⟩)
  unfold maxLen at hb4
  clear hg1 hg2 hg3 hg4 HSF HC1 HF
  go_wp2_with fail
  refine HCF.out.mono ?_; rintro e w3 ⟨rfl, hk1, hk2⟩
  have HB3 : Hid (Below w.heap.size w w3) := HB2.out.trans (hk2.below (by have := HB2.out.size; omega) (fun b hb => by omega))
  obtain ⟨KL, hKL⟩ : ∃ l, keptP g n = l := ⟨_, rfl⟩
  have hkn := keptP_len g n
  rw [hKL] at hk1 hkn HK ⊢
  have HKM : Hid (∀ p ∈ KL, NumsAt w3 p.1 p.2 ∧ p.1.ownBlock ≠ some blk) := fun p hp => by
    rw [← hKL] at hp
    obtain ⟨i, hi, rfl⟩ := keptP_mem g n p hp
    exact ⟨(HG2.out i hi).1.off hk2 (fun k hk e => (HG2.out i hi).2 (by rw [hk, e])), (HG2.out i hi).2⟩
  have hl3 := Nat.lt_of_lt_of_le hl2 hk2.size
  have HC3 : Hid (Cp w3 blk KL.length w3 (listF KL)) := ⟨fun j hj => by rw [listF_at hj]; exact (hk1 j hj).1, fun j hj => (hk1 j hj).2, Off.refl _ _⟩
  have HUP : Hid (∀ a b, a < b → b < KL.length → ¬ Col.cmp (listF KL b).2 (listF KL a).2 < 0) := strict_up (by rw [HK.out]; exact Col.strict_srt ds)
  have HBS : Hid (∀ (W : World) (i : Nat), Below w3.heap.size w3 W → i < n → Calls Tryz.prog 83 #[.slice (some ⟨blk, 0, none⟩) KL.length cap1, (pairF xs ds i).1, .func (.func 81) #[] #[]] W fun e w' =>
      ∃ c : Bool, e = .returned (.tuple #[.int .i64 ((Col.rk ds (ds.getD i []) : Nat) : Int), .bool c]) ∧ Below W.heap.size W w') := fun W i hW hi => by
    have hix : i < xs.length := by rw [HNN.out]; exact hi
    have h := HL.out.at' i hix
    have e1 : (pairF xs ds i).1 = xs[i] := by unfold pairF; simp [hix]
    have hc := HC3.out.below hl3 hW
    have := BinSearch_any W blk KL.length cap1 (listF KL) (Nat.lt_of_lt_of_le hl3 hW.size) (by omega) (fun j hj => by rw [listF_at hj]; exact ⟨(HKM.out _ (List.getElem_mem hj)).1.below hW, (HKM.out _ (List.getElem_mem hj)).2⟩) ⟨hc.cell, hc.frz, Off.refl _ _⟩ HUP.out (pairF xs ds i).1 (ds.getD i []) (by rw [e1]; exact (h.below HB3.out).below hW) (fun e => by
      rw [e1] at e
      rcases h with ⟨h0, _⟩ | ⟨g', o, c, h0, _, _, hg, _⟩
      · rw [h0] at e; cases e
      · rw [h0] at e
        have : g' = blk := Option.some.inj e
        omega)
    rw [range_keys, HK.out] at this
    exact this
  clear HC3 HUP HKM HCF HG2 hk1 hk2 HK HB1 HB2 HO1 hKL
  have HO4 : Hid (Own w3.heap.size (w3.alloc (.cells #[] 3)) (.slice (some ⟨w3.heap.size, 0, none⟩) 0 0) []) := Own.lit0 w3.heap.size w3 (Nat.le_refl _)
  have HB4 : Hid (Below w3.heap.size w3 (w3.alloc (.cells #[] 3))) := (Below.refl _ _).alloc (Nat.le_refl _) _
  go_wp2_with fail
  go_loopw [19, 4] (fun i u wr => ∃ k : Nat, k ≤ n ∧ i = .int .i64 (k : Int) ∧ Hid (Own w3.heap.size wr u ((Col.cols ds).take k)) ∧ Hid (Below w3.heap.size w3 wr)) (fun i _ _ => n - (intOf i).toNat)
  case atStart => exact ⟨0, by omega, rfl, HO4.out, HB4.out⟩
  case round =>
    clear HO4 HB4
    obtain ⟨k, hk, rfl, HU, HBW⟩ := hrel
    by_cases hlt : k < n
    · have hltI : (k : Int) < (n : Int) := by omega
      have hkx : k < xs.length := by rw [HNN.out]; exact hlt
      have hcell : wr.cell? ⟨g0, k, none⟩ = some (pairF xs ds k).1 := by
        rw [(HBW.out.cell (p := ⟨g0, k, none⟩) (Nat.lt_of_lt_of_le hg0 HB3.out.size)), HB3.out.cell (p := ⟨g0, k, none⟩) hg0, HCE.out k hkx]
        unfold pairF
        simp [hkx]
      have HBS1 := Lib.hid (fun W (hW : Below wr.heap.size wr W) => HBS.out W k (HBW.out.trans (hW.mono HBW.out.size)) hlt)
      have HAT := Lib.hid (cols_at (ds := ds) (i := k) (by omega))
      obtain ⟨r, hr⟩ : ∃ r, Col.rk ds (ds.getD k []) = r := ⟨_, rfl⟩
      obtain ⟨x, hx⟩ : ∃ x, (pairF xs ds k).1 = x := ⟨_, rfl⟩
      rw [hr] at HAT HBS1
      rw [hx] at hcell HBS1
      have HLL : Hid (((Col.cols ds).take k).length ≤ 2000000) := by show _ ≤ _; rw [List.length_take]; omega
      clear hr hx
      go_wp2_with fail
      refine (HBS1.out _ (Below.refl _ _)).mono ?_; rintro e w5 ⟨c, rfl, hb⟩
      have HU5 := Lib.hid (HU.out.below hb)
      have HB5 := Lib.hid (HBW.out.trans (hb.mono HBW.out.size))
      clear hb HU HBW HBS1 hcell
      go_wp2_with (first | (at_builtin; refine wpList_own1 HU5.out HLL.out rfl (.tmp 29) (.tmp 31) rfl r _ rfl rfl rfl ?_; intro v2 w6 ho hg; have HU6 : Hid (Own w3.heap.size w6 v2 ((Col.cols ds).take (k + 1))) := (by show Own _ _ _ _; rw [HAT.out]; exact ho); have HB6 := Lib.hid (HB5.out.grown hg HB5.out.size (fun i hi => (HU5.out.own.lt i hi).1)); clear ho hg) | fail)
      go_roundw
      case rel => exact ⟨k + 1, by omega, by go_num, HU6.out, HB6.out⟩
      case measure => simp [intOf]; omega
    · obtain rfl : k = n := by omega
      have hltI : ¬ (k : Int) < (k : Int) := by omega
      have hfull : (Col.cols ds).take k = Col.cols ds := List.take_of_length_le (by rw [Col.cols_len, hdn]; exact Nat.le_refl _)
      rw [hfull] at HU
      go_wp2_with fail
      go_ret
      exact ⟨_, rfl, HU.out.mono HB3.out.size, HB3.out.trans (HBW.out.mono HB3.out.size)⟩
end Go.Proofs.YtfhogenjpepfnaaGreatDoor
