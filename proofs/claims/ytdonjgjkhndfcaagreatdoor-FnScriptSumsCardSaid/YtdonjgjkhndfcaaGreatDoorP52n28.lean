/- Contracts of the program's functions and what they compute: part 28. Conditions: those that each theorem states. -/
import Derived.Test.YtdonjgjkhndfcaaGreatDoorP52n27
import Derived.Test.YtdonjgjkhndfcaaGreatDoorP52n10
import Derived.Test.YtdonjgjkhndfcaaGreatDoorP52n7
namespace Go.Proofs.YtdonjgjkhndfcaaGreatDoor
open Go.RowKit
set_option linter.unusedVariables false
set_option maxRecDepth 100000
def maxL (L : List Nat) : Nat := L.foldl max 0
theorem maxL_snoc (L : List Nat) (x : Nat) : maxL (L ++ [x]) = max (maxL L) x := by simp [maxL]
theorem take_snocN (L : List Nat) (k : Nat) (h : k < L.length) : L.take (k + 1) = L.take k ++ [L.getD k 0] := by
  rw [List.take_succ_eq_append_getElem h]
  simp [h]
theorem sMax_any (v : Value) (L : List Nat) (w : World) (hv : NumsAt w v L) (h1 : 1 ≤ L.length) :
    Calls Tryz.prog 24 #[v] w fun e w' => e = .returned (.int .i64 (maxL L : Int)) ∧ w' = w := by
  obtain ⟨a, ca, rfl, c1, c2, hca⟩ := hv.view
  obtain ⟨g, o, rfl, hg, hc⟩ := hca (by omega)
  unfold maxLen at c2
  have HC := Lib.hid hc
  obtain ⟨n, hn⟩ : ∃ n, L.length = n := ⟨_, rfl⟩
  have HN := Lib.hid hn
  rw [hn] at h1 c1 ⊢
  have c0 := HC.out 0 (by rw [hn]; omega)
  have H0 : Hid (maxL (L.take 1) = L.getD 0 0) := by
    show _ = _
    rw [take_snocN L 0 (by rw [hn]; omega), maxL_snoc]
    simp [maxL]
  obtain ⟨z, hz⟩ : ∃ z, L.getD 0 0 = z := ⟨_, rfl⟩
  rw [hz, Nat.add_zero] at c0
  rw [hz] at H0
  clear hn hc hca hv hz
  have hn0 : ¬ (n : Int) < 1 := by omega
  go_enter Tryz.func24, Tryz.ntmps24
  go_wp2_with fail

  go_loopw [4, 3] (fun i m wr => ∃ k : Nat, 1 ≤ k ∧ k ≤ n ∧ i = .int .i64 (k : Int) ∧ m = .int .i64 ((maxL (L.take k) : Nat) : Int) ∧ Hid (wr = w)) (fun i _ _ => n - (intOf i).toNat)
  case atStart => exact ⟨1, by omega, by omega, rfl, by rw [H0.out], rfl⟩
  case round =>
    obtain ⟨k, hk1, hk, rfl, rfl, HW⟩ := hrel
    obtain rfl := HW.out
    clear H0 c0
    by_cases hlt : k < n
    · have hltI : (k : Int) < (n : Int) := by omega
      have c3 := HC.out k (by rw [HN.out]; exact hlt)
      have HM := Lib.hid (show maxL (L.take (k + 1)) = max (maxL (L.take k)) (L.getD k 0) by rw [take_snocN L k (by rw [HN.out]; exact hlt), maxL_snoc])
      obtain ⟨y, hy⟩ : ∃ y, L.getD k 0 = y := ⟨_, rfl⟩
      obtain ⟨m, hm⟩ : ∃ m, maxL (L.take k) = m := ⟨_, rfl⟩
      rw [hy, hm] at HM
      rw [hy] at c3
      rw [hm]
      clear hy hm
      go_wp2_with fail
      go_roundw
      case rel => exact ⟨k + 1, by omega, by omega, by go_num, by rw [HM.out]; refine congrArg _ ?_; omega, trivial⟩
      case measure => simp [intOf]; omega
    · obtain rfl : n = k := by omega
      have hltI : ¬ (n : Int) < (n : Int) := by omega
      have HT : Hid (maxL (L.take n) = maxL L) := by show _ = _; rw [List.take_of_length_le (by rw [HN.out]; exact Nat.le_refl _)]
      rw [HT.out]
      go_wp2_with fail
      go_ret
      exact ⟨rfl, rfl⟩
end Go.Proofs.YtdonjgjkhndfcaaGreatDoor

namespace Go.Proofs.YtdonjgjkhndfcaaGreatDoor.Gs
set_option linter.unusedVariables false
theorem nodup_le {α : Type} [DecidableEq α] : ∀ {L M : List α}, L.Nodup → (∀ x ∈ L, x ∈ M) → L.length ≤ M.length
  | [], M, _, _ => Nat.zero_le _
  | x :: L, M, hd, hs => by
    have h := List.nodup_cons.1 hd
    have hx := hs x (by simp)
    have ih := nodup_le (L := L) (M := M.erase x) h.2 (fun y hy => (List.mem_erase_of_ne (by rintro rfl; exact h.1 hy)).2 (hs y (by simp [hy])))
    rw [List.length_erase_of_mem hx] at ih
    have : 0 < M.length := List.length_pos_of_mem hx
    simp only [List.length_cons]; omega
end Go.Proofs.YtdonjgjkhndfcaaGreatDoor.Gs

namespace Go.Proofs.YtdonjgjkhndfcaaGreatDoor
set_option linter.unusedVariables false
theorem foldl_max_le (L : List Nat) : ∀ a b : Nat, a ≤ b → (∀ x ∈ L, x ≤ b) → L.foldl max a ≤ b := by
  induction L with
  | nil => intro a b h _; exact h
  | cons x L ih => intro a b h hx; exact ih _ _ (Nat.max_le.2 ⟨h, hx x (by simp)⟩) fun y hy => hx y (by simp [hy])
theorem le_foldl_max (L : List Nat) : ∀ a : Nat, a ≤ L.foldl max a ∧ ∀ x ∈ L, x ≤ L.foldl max a := by
  induction L with
  | nil => intro a; exact ⟨Nat.le_refl _, fun x hx => by cases hx⟩
  | cons y L ih =>
    intro a
    have h := ih (max a y)
    refine ⟨Nat.le_trans (Nat.le_max_left _ _) h.1, fun x hx => ?_⟩
    rcases List.mem_cons.1 hx with rfl | hx
    · exact Nat.le_trans (Nat.le_max_right _ _) h.1
    · exact h.2 x hx
theorem maxL_le {L : List Nat} {b : Nat} (h : ∀ x ∈ L, x ≤ b) : maxL L ≤ b := foldl_max_le L 0 b (Nat.zero_le _) h
theorem le_maxL {L : List Nat} {x : Nat} (h : x ∈ L) : x ≤ maxL L := (le_foldl_max L 0).2 x h
namespace Col
theorem strict_nodup {l : List (List Nat)} (h : Strict l) : l.Nodup := by
  refine List.Pairwise.imp (fun {x y} hxy e => ?_) h
  rw [e, cmp_self] at hxy
  omega
/-- Those that are less. -/
def less (ds : List (List Nat)) (d : List Nat) : List (List Nat) := (srt ds).filter fun e => decide (cmp e d < 0)
theorem rk_less (ds : List (List Nat)) (d : List Nat) : rk ds d = (less ds d).length := by unfold rk less; rw [List.countP_eq_length_filter]
theorem less_nodup (ds : List (List Nat)) (d : List Nat) : (less ds d).Nodup := List.Nodup.sublist List.filter_sublist (strict_nodup (strict_srt ds))
theorem mem_less {ds : List (List Nat)} {d e : List Nat} : e ∈ less ds d ↔ e ∈ ds ∧ cmp e d < 0 := by unfold less; rw [List.mem_filter, mem_srt]; simp
theorem rk_top {ds : List (List Nat)} {d : List Nat} (h : d ∈ ds) : rk ds d + 1 ≤ ds.length := by
  have h1 : (d :: less ds d).length ≤ (srt ds).length := Gs.nodup_le (List.nodup_cons.2 ⟨fun hm => by have := (mem_less.1 hm).2; rw [cmp_self] at this; omega, less_nodup _ _⟩) fun x hx => by
    rcases List.mem_cons.1 hx with rfl | hx
    · exact mem_srt.2 h
    · exact mem_srt.2 (mem_less.1 hx).1
  have h2 := len_srt ds
  rw [rk_less]
  simp only [List.length_cons] at h1
  omega
theorem cmp_head {x y : Nat} {s t : List Nat} (h : x < y) : cmp (x :: s) (y :: t) < 0 := by
  unfold cmp
  simp [h]
/-- Where each new list begins with the old colour no colour falls. -/
theorem rk_up {N : Nat} {f g : Nat → List Nat} (hg : ∀ j, j < N → ∃ t, g j = rk ((List.range N).map f) (f j) :: t) {j : Nat} (hj : j < N) : rk ((List.range N).map f) (f j) ≤ rk ((List.range N).map g) (g j) := by
  have hm : ∀ (f : Nat → List Nat) {i : Nat}, i < N → f i ∈ (List.range N).map f := fun f i hi => List.mem_map.2 ⟨i, List.mem_range.2 hi, rfl⟩
  have hp : ∀ d ∈ less ((List.range N).map f) (f j), ∃ i, i < N ∧ f i = d := fun d hd => by
    obtain ⟨i, hi, e⟩ := List.mem_map.1 (mem_less.1 hd).1
    exact ⟨i, List.mem_range.1 hi, e⟩
  rw [rk_less _ (f j), rk_less _ (g j)]
  let P : List Nat → Nat := fun d => if h : ∃ i, i < N ∧ f i = d then Classical.choose h else 0
  have hP : ∀ d ∈ less ((List.range N).map f) (f j), P d < N ∧ f (P d) = d := fun d hd => by
    have h := hp d hd
    show (dite _ _ _) < N ∧ f (dite _ _ _) = d
    rw [dif_pos h]
    exact Classical.choose_spec h
  have hl : ((less ((List.range N).map f) (f j)).map fun d => g (P d)).length = (less ((List.range N).map f) (f j)).length := List.length_map ..
  rw [← hl]
  refine Gs.nodup_le ?_ ?_
  · refine List.pairwise_map.2 ?_
    refine List.Pairwise.imp_of_mem (fun {a b} ha hb hne e => hne ?_) (less_nodup ((List.range N).map f) (f j))
    obtain ⟨a1, a2⟩ := hP a ha
    obtain ⟨b1, b2⟩ := hP b hb
    obtain ⟨s, hs⟩ := hg _ a1
    obtain ⟨t, ht⟩ := hg _ b1
    rw [hs, ht] at e
    injection e with e _
    rw [a2, b2] at e
    exact rk_inj (mem_less.1 ha).1 (mem_less.1 hb).1 e
  · intro x hx
    obtain ⟨d, hd, rfl⟩ := List.mem_map.1 hx
    obtain ⟨a1, a2⟩ := hP d hd
    refine mem_less.2 ⟨hm g a1, ?_⟩
    obtain ⟨s, hs⟩ := hg _ a1
    obtain ⟨t, ht⟩ := hg _ hj
    rw [hs, ht, a2]
    exact cmp_head (rk_lt (mem_less.1 hd).1 (mem_less.1 hd).2)
end Col
end Go.Proofs.YtdonjgjkhndfcaaGreatDoor

namespace Go.Proofs.YtdonjgjkhndfcaaGreatDoor.Col
set_option linter.unusedVariables false
/-- What an element is called in a round of one structure. -/
def dsc (a : Gs.St) : Nat → Nat → List Nat
  | 0 => first a
  | r + 1 => descr a (after [a] r)
theorem after_dsc (a : Gs.St) : ∀ r, after [a] r = cols ((List.range a.n).map (dsc a r))
  | 0 => by simp [after, firsts, dsc]
  | r + 1 => by
    have hl : (after [a] r).length = a.n := by rw [after_len]; simp [many]
    rw [after]
    unfold descrs
    rw [List.take_of_length_le (Nat.le_of_eq hl)]
    simp [descrs, dsc]
theorem after_at (a : Gs.St) (r : Nat) {j : Nat} (hj : j < a.n) : (after [a] r).getD j 0 = rk ((List.range a.n).map (dsc a r)) (dsc a r j) := by
  rw [after_dsc]
  unfold cols
  simp [hj]
theorem dsc_head (a : Gs.St) (r : Nat) {j : Nat} (hj : j < a.n) : ∃ t, dsc a (r + 1) j = rk ((List.range a.n).map (dsc a r)) (dsc a r j) :: t := by
  rw [← after_at a r hj]
  exact ⟨_, by simp only [dsc, descr, List.cons_append]; rfl⟩
theorem after_mono (a : Gs.St) (r : Nat) : maxL (after [a] r) ≤ maxL (after [a] (r + 1)) := by
  refine maxL_le fun x hx => ?_
  rw [after_dsc] at hx
  unfold cols at hx
  obtain ⟨d, hd, rfl⟩ := List.mem_map.1 hx
  obtain ⟨j, hj, rfl⟩ := List.mem_map.1 hd
  have hj := List.mem_range.1 hj
  refine Nat.le_trans (rk_up (fun j hj => dsc_head a r hj) hj) (le_maxL ?_)
  rw [after_dsc]
  exact List.mem_map.2 ⟨_, List.mem_map.2 ⟨j, List.mem_range.2 hj, rfl⟩, rfl⟩
theorem after_top (a : Gs.St) (r : Nat) (h1 : 1 ≤ a.n) : maxL (after [a] r) + 1 ≤ a.n := by
  have : maxL (after [a] r) ≤ a.n - 1 := by
    refine maxL_le fun x hx => ?_
    rw [after_dsc] at hx
    unfold cols at hx
    obtain ⟨d, hd, rfl⟩ := List.mem_map.1 hx
    have := rk_top hd
    rw [List.length_map, List.length_range] at this
    omega
  omega
/-- From a round on, the first at which the greatest colour stands still. -/
def stabAt (a : Gs.St) : Nat → Nat → Nat
  | 0, r => r
  | f + 1, r => if maxL (after [a] r) = maxL (after [a] (r + 1)) then r else stabAt a f (r + 1)
def stab (a : Gs.St) : Nat := stabAt a 8 0
theorem stabAt_yes {a : Gs.St} {f r : Nat} (h : maxL (after [a] r) = maxL (after [a] (r + 1))) : stabAt a f r = r := by
  cases f with
  | zero => rfl
  | succ f => unfold stabAt; rw [if_pos h]
theorem stabAt_no {a : Gs.St} {r : Nat} (hr : r ≤ 7) (h : ¬ maxL (after [a] r) = maxL (after [a] (r + 1))) : stabAt a (8 - r) r = stabAt a (8 - (r + 1)) (r + 1) := by
  obtain ⟨f, hf⟩ : ∃ f, 8 - r = f + 1 := ⟨7 - r, by omega⟩
  have hf2 : 8 - (r + 1) = f := by omega
  rw [hf, hf2]
  conv => lhs; unfold stabAt
  rw [if_neg h]
end Go.Proofs.YtdonjgjkhndfcaaGreatDoor.Col

namespace Go.Proofs.YtdonjgjkhndfcaaGreatDoor
open Go.RowKit
set_option linter.unusedVariables false
set_option maxRecDepth 100000
theorem after_new (n : Nat) (S R : ByteArray) (r : Nat) (W : World) (b : Nat) (hb : SBlk W b n S R) (h1 : 1 ≤ n) (h8 : n ≤ 8) (hS : S.size = n) (hR : R.size = n * n) (hr : r ≤ 1000) :
    Calls Tryz.prog 23 #[.slice (some ⟨b, 0, none⟩) 1 1, .int .i64 (r : Int)] W (NewNums W (Col.after [stOf n S R] r)) := by
  obtain ⟨c0, c1, c2, _, _, _, hl⟩ := hb.cells
  refine coloursAfter_any [(n, S, R)] b 1 r _ (by simp) (by simp) (by simp) (by decide) hr (by intro p hp; rw [List.mem_singleton] at hp; subst hp; exact ⟨h1, h8, hS, hR⟩) ⟨hl, fun i hi => ?_⟩
  have hi : i = 0 := by simpa using hi
  subst hi
  exact ⟨c0, c1, c2⟩
theorem blk_drew (w : World) (n : Nat) (S R : ByteArray) : SBlk (w.alloc (.cells #[.int .i64 (n : Int), .string S, .string R] 24)).drew w.heap.size n S R := (SBlk.new w n S R).below (B := w.heap.size + 1) (Below.refl _ _).drew (Nat.lt_succ_self _)
theorem below_ad (w : World) (o : Obj) : Below w.heap.size w (w.alloc o).drew := ((Below.refl _ _).alloc (Nat.le_refl _) o).drew
theorem below_fresh {w w4 : World} {o : Obj} (hb : Below (w.alloc o).drew.heap.size (w.alloc o).drew w4) : Below w.heap.size w w4 := (below_ad w o).trans (hb.mono (below_ad w o).size)
set_option maxHeartbeats 4000000 in
theorem StableColours_any (n : Nat) (S R : ByteArray) (hv : validB n S R = true) (w : World) :
    Calls Tryz.prog 7 #[strV n S R] w fun e w' => ∃ v, e = .returned (.tuple #[v, .int .i64 (Col.stab (stOf n S R) : Int)]) ∧ Own w.heap.size w' v (Col.after [stOf n S R] (Col.stab (stOf n S R))) ∧ Below w.heap.size w w' := by
  obtain ⟨h1, h8, hS, hR, _, _⟩ := valid_is hv
  have HIS : Hid (∀ w, Calls Tryz.prog 22 #[strV n S R] w fun e w' => e = .returned (.bool true) ∧ Below w.heap.size w w') := fun w => by
    have := isStructure_any n S R w (by omega) (by rw [hR]; have := Nat.mul_le_mul h8 h8; omega)
    rw [hv] at this
    exact this
  have HB : Hid (SBlk (boxS w n S R) w.heap.size n S R ∧ Below w.heap.size w (boxS w n S R)) := ⟨boxS_SBlk _ _ _ _, boxS_below _ _ _ _⟩
  unfold boxS at HB
  have HA := Lib.hid (fun r W b hb hr => after_new n S R r W b hb h1 h8 hS hR hr)
  have HTOP := Lib.hid (fun r => Col.after_top (stOf n S R) r h1)
  have HMX := Lib.hid (fun r (v : Value) (W : World) (h : NumsAt W v (Col.after [stOf n S R] r)) => sMax_any v _ W h (by rw [Col.after_len]; show 1 ≤ n + 0; omega))
  clear hv hS hR
  obtain ⟨s0, s1, s2, _, _, _, hl⟩ := HB.out.1.cells
  unfold strV at HIS
  unfold strV
  go_enter Tryz.func7, Tryz.ntmps7
  go_wp2_with fail
  refine (HIS.out _).mono ?_; rintro e w1 ⟨rfl, hb⟩
  have HB1 : Hid (SBlk w1 w.heap.size n S R ∧ Below w.heap.size w w1) := ⟨HB.out.1.below hb HB.out.1.cells.2.2.2.2.2.2, HB.out.2.trans (hb.mono HB.out.2.size)⟩
  clear s0 s1 s2 hl hb HB
  go_wp2_with fail
  go_loopw [4] (fun q wr => ∃ r : Nat, q = .int .i64 (r : Int) ∧ Hid (SBlk wr w.heap.size n S R ∧ Below w.heap.size w wr) ∧ Hid (r ≤ maxL (Col.after [stOf n S R] r) ∧ Col.stabAt (stOf n S R) (8 - r) r = Col.stab (stOf n S R))) (fun q _ => 8 - (intOf q).toNat)
  case atStart => exact ⟨0, rfl, HB1.out, Nat.zero_le _, rfl⟩
  case round =>
    clear HB1
    obtain ⟨r, rfl, HB2, HR⟩ := hrel
    obtain ⟨s0, s1, s2, _, _, _, hl⟩ := HB2.out.1.cells
    have hr7 : r ≤ 7 := by have := HR.out.1; have := HTOP.out r; have : (stOf n S R).n = n := rfl; omega
    go_upto_region 5 with fail
    go_wp2_with fail
    refine (HA.out r _ _ (SBlk.new wr n S R) (by omega)).mono ?_; rintro e w2 ⟨u, rfl, ho, hb⟩
    have hb5 : Below wr.heap.size wr w2 := ((Below.refl wr.heap.size wr).alloc (Nat.le_refl _) _).trans (hb.mono (by simp))
    have HB3 : Hid (SBlk w2 w.heap.size n S R ∧ Below w.heap.size w w2) := ⟨HB2.out.1.below hb5 hl, HB2.out.2.trans (hb5.mono HB2.out.2.size)⟩
    have HU : Hid (Own w.heap.size w2 u (Col.after [stOf n S R] r)) := ho.mono (by have := HB2.out.2.size; simp; omega)
    clear hb5 ho hb s0 s1 s2 hl HB2
    obtain ⟨s0, s1, s2, _, _, _, hl⟩ := HB3.out.1.cells
    have HA2 : Hid (∀ (W : World) b, SBlk W b n S R → Calls Tryz.prog 23 #[.slice (some ⟨b, 0, none⟩) 1 1, .int .i64 (IntKind.i64.wrap ((r : Int) + 1))] W (NewNums W (Col.after [stOf n S R] (r + 1)))) := fun W b hb => by rw [IntWalk.i64_in _ (by omega)]; exact HA.out (r + 1) W b hb (by omega)
    have HM1 := Lib.hid (fun W (hb : Below w2.heap.size w2 W) => HMX.out r u W (HU.out.nums.below hb))
    have HM2 := Lib.hid (HMX.out (r + 1))
    obtain ⟨M1, hm1⟩ : ∃ m, maxL (Col.after [stOf n S R] r) = m := ⟨_, rfl⟩
    obtain ⟨M2, hm2⟩ : ∃ m, maxL (Col.after [stOf n S R] (r + 1)) = m := ⟨_, rfl⟩
    rw [hm1] at HM1
    rw [hm2] at HM2
    have HME := Lib.hid (And.intro hm1 hm2)
    clear hm1 hm2
    go_upto_region 6 with fail
    go_region_held3 (fun w' => w'.cell? ⟨w.heap.size, 0, none⟩ = some (.int .i64 (n : Int)) ∧ w'.cell? ⟨w.heap.size, 1, none⟩ = some (.string S) ∧ w'.cell? ⟨w.heap.size, 2, none⟩ = some (.string R)) (go_keep)
      (first
        | (go_at_call 24; with_reducible refine (HM1.out _ (by first | with_reducible exact HB4.out | with_reducible exact (Below.refl _ _).drew | with_reducible exact below_ad _ _)).mono ?_; rintro e wq ⟨rfl, rfl⟩)
        | (go_at_call 24; with_reducible refine (HM2.out _ _ HY.out).mono ?_; rintro e wq ⟨rfl, rfl⟩)
        | (go_at_call 23; refine (HA2.out _ _ (by first | with_reducible exact SBlk.new w2 n S R | with_reducible exact blk_drew w2 n S R)).mono ?_; rintro e w4 ⟨y, rfl, ho, hb⟩; have HY := Lib.hid ho.nums; have HB4 : Hid (Below w2.heap.size w2 w4) := below_fresh hb; have HB5 := Lib.hid (HB3.out.1.below HB4.out hl); clear ho hb s0 s1 s2 hl; obtain ⟨s0, s1, s2, _, _, _, hl⟩ := HB5.out.cells))
    all_goals
      have HB6 : Hid (SBlk wq w.heap.size n S R ∧ Below w.heap.size w wq) := ⟨HB5.out, HB3.out.2.trans (HB4.out.mono HB3.out.2.size)⟩
      have HU6 := Lib.hid (HU.out.below HB4.out)
      clear HB4 HY HM1 HM2 HA2 HB3 HU
      by_cases hmm : M1 = M2
      · have hmI : ((M1 : Int) == (M2 : Int)) = true := by simp [hmm]
        have HS : Hid (Col.stab (stOf n S R) = r) := by
          show _ = _
          rw [← HR.out.2]
          exact Col.stabAt_yes (by rw [HME.out.1, HME.out.2, hmm])
        rw [hmI]
        go_wp2_with fail
        exact bodyPost_ret (results_tmp2 rfl _ _ _) rfl ⟨u, by rw [HS.out]; rfl, by rw [HS.out]; exact HU6.out, HB6.out.2⟩
      · have hmI : ((M1 : Int) == (M2 : Int)) = false := by rw [beq_eq_false_iff_ne]; omega
        have HN : Hid (r + 1 ≤ maxL (Col.after [stOf n S R] (r + 1)) ∧ Col.stabAt (stOf n S R) (8 - (r + 1)) (r + 1) = Col.stab (stOf n S R)) := by
          have h1 := Col.after_mono (stOf n S R) r
          have h2 := HME.out
          have h3 := HR.out.1
          refine ⟨by omega, ?_⟩
          rw [← HR.out.2]
          exact (Col.stabAt_no hr7 (by rw [h2.1, h2.2]; exact hmm)).symm
        rw [hmI]
        go_wp2_with fail
        go_roundw
        case rel => exact ⟨r + 1, by go_num, HB6.out, HN.out⟩
        case measure => simp [intOf]; omega
end Go.Proofs.YtdonjgjkhndfcaaGreatDoor
