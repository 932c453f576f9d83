/- Contracts of the program's functions and what they compute: part 23. Conditions: those that each theorem states. -/
import Derived.Test.YtnhlhjehocngcaaGreatDoorP50n22
import Derived.Test.YtnhlhjehocngcaaGreatDoorP50n10
import Derived.Test.YtnhlhjehocngcaaGreatDoorP50n18
namespace Go.Proofs.YtnhlhjehocngcaaGreatDoor
open Go.RowKit
set_option linter.unusedVariables false
set_option maxRecDepth 100000
/-- A number of a level. -/
theorem LevAt.look {w : World} {v : Value} {cs : List (List Nat)} (h : LevAt w v cs) {i j : Nat} (hi : i < cs.length) (hj : j < (cs.getD i []).length) :
    ∃ g cap g2 o cap2, v = .slice (some ⟨g, 0, none⟩) cs.length cap ∧ w.cell? ⟨g, i, none⟩ = some (.slice (some ⟨g2, o, none⟩) (cs.getD i []).length cap2) ∧ w.cell? ⟨g2, o + j, none⟩ = some (.int .i64 (((cs.getD i []).getD j 0 : Nat) : Int)) := by
  obtain ⟨g, cap, rfl, _, _, _, h4⟩ := h
  obtain ⟨x, q1, q2⟩ := h4 i hi
  rcases q2 with ⟨rfl, e⟩ | ⟨g2, o, cap2, rfl, _, _, _, hc⟩
  · rw [e] at hj; simp at hj
  · exact ⟨g, cap, g2, o, cap2, rfl, q1, hc j hj⟩
set_option maxHeartbeats 2000000 in
theorem l7Wins_any (n m t : Nat) (S R S2 R2 : ByteArray) (L M : List Int) (v u : Value) (w : World) (hS : S.size = n) (hR : R.size = n * n) (hS2 : S2.size = m) (hR2 : R2.size = m * m) (hn : n ≤ 8) (hm : m ≤ 8) (hk : L.length ≤ 3) (hl : M.length = L.length) (ht : t ≤ 3) (hv : IntsAt w v L) (hu : IntsAt w u M) (hp : Pbs n L) (hq : Pbs m M) (hs : ∀ j : Nat, (L.getD j 0 < 0) ↔ (M.getD j 0 < 0)) :
    Calls Tryz.prog 32 #[strV n S R, v, strV m S2 R2, u, .int .i64 (t : Int)] w fun e w' => e = .returned (.bool (pwB (stOf n S R) (stOf m S2 R2) n m t L M)) ∧ Below w.heap.size w w' := by
  have HT := Lib.hid (Bxp.new w n S R m S2 R2)
  obtain ⟨W, hW⟩ : ∃ W, boxS (boxS w n S R) m S2 R2 = W := ⟨_, rfl⟩
  rw [hW] at HT
  unfold boxS at hW
  have HW := Lib.hid hW
  clear hW
  have HLV := Lib.hid (fun W => l7Levels_any n m L.length t S R S2 R2 W hS hR hS2 hR2 hn hm hk ht)
  have HIA := Lib.hid (fun (W : World) (hb : Below w.heap.size w W) => l7Index_any n S R L v W hn hk (hv.below hb) hp)
  have HIB := Lib.hid (fun (W : World) (hb : Below w.heap.size w W) => l7Index_any m S2 R2 M u W hm (by omega) (hu.below hb) hq)
  have HXA := Lib.hid (ixL_lt L.length rfl hp)
  have HXB := Lib.hid (ixL_lt L.length hl hq)
  have HEQ := Lib.hid (fun (cs ds : List (List Nat)) (h : Lf (stOf n S R) (stOf m S2 R2) n m L.length t cs ds) => (h.at' t (Nat.le_refl _)).2.2.2.2 L M hp hq rfl hl hs)
  have HPN := Lib.hid (pw_le hn hk)
  have HPM := Lib.hid (pw_le hm hk)
  obtain ⟨RV, hRV⟩ : ∃ r, pwB (stOf n S R) (stOf m S2 R2) n m t L M = r := ⟨_, rfl⟩
  rw [hRV] at HEQ ⊢
  obtain ⟨a1, ca, rfl, hv1, hv2, _⟩ := hv.view
  obtain ⟨b1, cb, rfl, _, _, _⟩ := hu.view
  clear hRV hS hR hS2 hR2 hn hm hp hq hs hv hu hl
  unfold strV at HLV HIA HIB
  unfold strV
  go_enter Tryz.func32, Tryz.ntmps32
  go_upto_region 1 with fail
  rw [HW.out]
  obtain ⟨c0, c1, c2, _⟩ := HT.out.a.cells
  obtain ⟨d0, d1, d2, _⟩ := HT.out.b.cells
  go_wp2_with fail
  refine (HLV.out _).mono ?_; rintro e w1 ⟨va, vb, cs, ds, rfl, hA, hB, hF, hb⟩
  have HT1 := Lib.hid (HT.out.below hb)
  have HFE := Lib.hid (HEQ.out cs ds hF)
  obtain ⟨f1, f2, _⟩ := hF.at' t (Nat.le_refl _)
  obtain ⟨ga, capa, g1, o1, cap1, rfl, x0, x1⟩ := hA.look (i := t) (j := ixL (n + 1) L) (by rw [hF.lc]; omega) (by rw [f1]; exact HXA.out)
  obtain ⟨gb, capb, g2, o2, cap2, rfl, y0, y1⟩ := hB.look (i := t) (j := ixL (m + 1) M) (by rw [hF.ld]; omega) (by rw [f2]; exact HXB.out)
  rw [f1] at x0
  rw [f2] at y0
  rw [hF.lc, hF.ld]
  clear hA hB hF hb f1 f2 c0 c1 c2 d0 d1 d2
  obtain ⟨c0, c1, c2, _⟩ := HT1.out.a.cells
  obtain ⟨d0, d1, d2, _⟩ := HT1.out.b.cells
  have J1 : Hid (∀ z : Since w1, _) := fun z => HIA.out z.w (HT1.out.old.trans (z.below.mono HT1.out.old.size))
  have J2 : Hid (∀ z : Since w1, _) := fun z => HIB.out z.w (HT1.out.old.trans (z.below.mono HT1.out.old.size))
  have hxa := HXA.out
  have hxb := HXB.out
  have hpn := HPN.out
  have hpm := HPM.out
  generalize (n + 1) ^ L.length = N at *
  generalize (m + 1) ^ L.length = N2 at *
  generalize ixL (n + 1) L = ia at *
  generalize ixL (m + 1) M = ib at *
  generalize (cs.getD t []).getD ia 0 = cN at *
  generalize (ds.getD t []).getD ib 0 = dN at *
  have h1 : (ia : Int) < (N : Int) := by omega
  have h2 : (ib : Int) < (N2 : Int) := by omega
  have h3 : (ia : Int) ≤ 729 := by omega
  have h4 : (ib : Int) ≤ 729 := by omega
  have htI : (t : Int) ≤ 3 := by omega
  have htt : (t : Int) < (t : Int) + 1 := by omega
  have ht1 : (t : Int) + 1 - 1 = (t : Int) := by omega
  have HO := Lib.hid HT1.out.old
  clear hpn hpm hxa hxb
  go_wp2_with fail
  have p0 := fun s => Since.cell c0 s
  have p1 := fun s => Since.cell c1 s
  have p2 := fun s => Since.cell c2 s
  have p3 := fun s => Since.cell d0 s
  have p4 := fun s => Since.cell d1 s
  have p5 := fun s => Since.cell d2 s
  have p6 := fun s => Since.cell x0 s
  have p7 := fun s => Since.cell x1 s
  have p8 := fun s => Since.cell y0 s
  have p9 := fun s => Since.cell y1 s
  refine wp_region_since (by kernel_rfl) (by kernel_rfl) ?_
  repeat (go_big_quiet_step (first | (with_reducible exact Since.call (J1.out _)) | (with_reducible exact Since.call (J2.out _))))
  refine wpQuiet_nil ?_
  intro w9 hb9
  have HO9 := Lib.hid (HO.out.trans (hb9.mono HO.out.size))
  clear hb9 p0 p1 p2 p3 p4 p5 p6 p7 p8 p9
  go_wp2_with fail
  go_ret
  have hR : decide ((cN : Int) = (dN : Int)) = RV := by
    have h := HFE.out
    cases RV
    · rw [decide_eq_false_iff_not]; intro e; have := h.1 (by omega); cases this
    · rw [decide_eq_true_iff]; have := h.2 rfl; omega
  refine ⟨?_, HO9.out⟩
  rw [← hR]
  rfl
end Go.Proofs.YtnhlhjehocngcaaGreatDoor

namespace Go.Proofs.YtnhlhjehocngcaaGreatDoor
open Go.RowKit
set_option linter.unusedVariables false
set_option maxRecDepth 100000
/-- What the reference's formula is told. -/
def l7V (n : Nat) (S R : ByteArray) (m : Nat) (S2 R2 : ByteArray) (va vb : Value) : Value := .agg #[.int .i64 (n : Int), .string S, .string R, .int .i64 (m : Int), .string S2, .string R2, va, vb]
theorem tellInfo : (Tryz.prog.info? 70).map (·.size) = some 8 := by kernel_rfl
set_option maxHeartbeats 1000000 in
theorem l7Turned_any (n m : Nat) (S R S2 R2 : ByteArray) (g h p q c d : Nat) (w : World) : Calls Tryz.prog 76 #[l7V n S R m S2 R2 (.slice (some ⟨g, 0, none⟩) p c) (.slice (some ⟨h, 0, none⟩) q d)] w fun e w' => e = .returned (l7V m S2 R2 n S R (.slice (some ⟨h, 0, none⟩) q d) (.slice (some ⟨g, 0, none⟩) p c)) ∧ Below w.heap.size w w' := by
  unfold l7V
  go_enter Tryz.func76, Tryz.ntmps76
  go_wp2_with fail
  have hr := heap_alloc_new (w.alloc (.cells #[.int .i64 (n : Int), .string S, .string R, .int .i64 (m : Int), .string S2, .string R2, .slice (some ⟨g, 0, none⟩) p c, .slice (some ⟨h, 0, none⟩) q d] 70)) (.cells #[.int .i64 (m : Int), .string S2, .string R2, .int .i64 (n : Int), .string S, .string R, .slice (some ⟨h, 0, none⟩) q d, .slice (some ⟨g, 0, none⟩) p c] 70)
  rw [show (w.alloc (.cells #[.int .i64 (n : Int), .string S, .string R, .int .i64 (m : Int), .string S2, .string R2, .slice (some ⟨g, 0, none⟩) p c, .slice (some ⟨h, 0, none⟩) q d] 70)).heap.size = w.heap.size + 1 by simp] at hr
  refine bodyPost_ret (v := .agg #[.int .i64 (m : Int), .string S2, .string R2, .int .i64 (n : Int), .string S, .string R, .slice (some ⟨h, 0, none⟩) q d, .slice (some ⟨g, 0, none⟩) p c]) ?_ rfl ⟨rfl, ((Below.refl _ _).alloc (Nat.le_refl _) _).alloc (by simp) _⟩
  exact results_cell_row rfl _ _ (w.heap.size + 1) 70 #[.int .i64 (m : Int), .string S2, .string R2, .int .i64 (n : Int), .string S, .string R, .slice (some ⟨h, 0, none⟩) q d, .slice (some ⟨g, 0, none⟩) p c] (0, 0) _ rfl hr Tryz.underlying70 rfl tellInfo
end Go.Proofs.YtnhlhjehocngcaaGreatDoor

namespace Go.Proofs.YtnhlhjehocngcaaGreatDoor
open Go.RowKit
set_option linter.unusedVariables false
set_option maxRecDepth 100000
theorem zip_lay {Q : Nat → Nat → Prop} : ∀ {L M : List Int}, L.length = M.length → (∀ j : Nat, (L.getD j 0 < 0) ↔ (M.getD j 0 < 0)) → ((∀ p ∈ (layN L).zip (layN M), Q p.1 p.2) ↔ ∀ k, k < L.length → 0 ≤ L.getD k 0 → Q (elB L k) (elB M k))
  | [], [], _, _ => by simp [layN]
  | [], _ :: _, h, _ => by simp at h
  | _ :: _, [], h, _ => by simp at h
  | x :: L, y :: M, h, hs => by
    have ih := zip_lay (Q := Q) (L := L) (M := M) (by simpa using h) (fun j => by simpa using hs (j + 1))
    have h0 : x < 0 ↔ y < 0 := by simpa using hs 0
    have hk : (∀ k, k < (x :: L).length → 0 ≤ (x :: L).getD k 0 → Q (elB (x :: L) k) (elB (y :: M) k)) ↔ (0 ≤ x → Q x.toNat y.toNat) ∧ ∀ k, k < L.length → 0 ≤ L.getD k 0 → Q (elB L k) (elB M k) := by
      constructor
      · intro hh
        refine ⟨fun hx => ?_, fun k hk hp => ?_⟩
        · have := hh 0 (by simp) (by simpa using hx)
          simpa [elB] using this
        · have := hh (k + 1) (by simpa using hk) (by simpa using hp)
          simpa [elB] using this
      · rintro ⟨h1, h2⟩ k hk hp
        cases k with
        | zero => simpa [elB] using h1 (by simpa using hp)
        | succ k => simpa [elB] using h2 k (by simpa using hk) (by simpa using hp)
    rw [hk, layN_cons, layN_cons]
    by_cases hx : 0 ≤ x
    · rw [if_pos hx, if_pos (show 0 ≤ y by omega), List.zip_cons_cons, ← ih]
      constructor
      · intro hh
        exact ⟨fun _ => hh (x.toNat, y.toNat) (by simp), fun p hp => hh p (by simp [hp])⟩
      · rintro ⟨h1, h2⟩ p hp
        rcases List.mem_cons.1 hp with rfl | hp
        · exact h1 hx
        · exact h2 p hp
    · rw [if_neg hx, if_neg (show ¬ 0 ≤ y by omega), ih]
      constructor
      · intro hh; exact ⟨fun h => absurd h hx, hh⟩
      · rintro ⟨_, h2⟩; exact h2
theorem fa3_none {a b : Gs.St} {L M : List Int} {i k : Nat} (h0 : 0 ≤ L.getD i 0) (hsi : L.getD i 0 < 0 ↔ M.getD i 0 < 0) (hsk : L.getD k 0 < 0 ↔ M.getD k 0 < 0) : fa3 a b L M i k = none ↔ (0 ≤ L.getD k 0 → ((elB L k = elB L i ↔ elB M k = elB M i) ∧ a.r (elB L k) (elB L i) = b.r (elB M k) (elB M i) ∧ a.r (elB L i) (elB L k) = b.r (elB M i) (elB M k))) := by
  by_cases hk : L.getD k 0 < 0
  · unfold fa3
    rw [if_pos hk]
    simp
    intro h
    rw [List.getD_eq_getElem?_getD] at hk
    omega
  · have e1 : decide (L.getD k 0 = L.getD i 0) = decide (elB L k = elB L i) := by
      rw [decide_eq_decide]; unfold elB; omega
    have e2 : decide (M.getD k 0 = M.getD i 0) = decide (elB M k = elB M i) := by
      rw [decide_eq_decide]; unfold elB; omega
    unfold fa3
    rw [if_neg hk, e1, e2]
    by_cases q1 : (elB L k = elB L i ↔ elB M k = elB M i)
    · have q1' : decide (elB L k = elB L i) = decide (elB M k = elB M i) := by rw [decide_eq_decide]; exact q1
      rw [q1', if_neg (by simp)]
      by_cases q2 : a.r (elB L k) (elB L i) = b.r (elB M k) (elB M i)
      · rw [q2, if_neg (by simp)]
        by_cases q3 : a.r (elB L i) (elB L k) = b.r (elB M i) (elB M k)
        · rw [q3, if_neg (by simp)]
          exact ⟨fun _ _ => ⟨q1, rfl, rfl⟩, fun _ => rfl⟩
        · rw [if_pos (by simpa using q3)]
          exact ⟨fun h => (by cases h), fun h => absurd (h (by omega)).2.2 q3⟩
      · rw [if_pos (by simpa using q2)]
        exact ⟨fun h => (by cases h), fun h => absurd (h (by omega)).2.1 q2⟩
    · have q1' : decide (elB L k = elB L i) ≠ decide (elB M k = elB M i) := fun e => q1 (decide_eq_decide.1 e)
      rw [if_pos (by simpa using q1')]
      exact ⟨fun h => (by cases h), fun h => absurd (h (by omega)).1 q1⟩
theorem fa1_none {a b : Gs.St} {L M : List Int} {i : Nat} (hs : ∀ j : Nat, (L.getD j 0 < 0) ↔ (M.getD j 0 < 0)) : fa1 a b L M i = none ↔ (0 ≤ L.getD i 0 → a.s (elB L i) = b.s (elB M i) ∧ ∀ k, k < i + 1 → 0 ≤ L.getD k 0 → ((elB L k = elB L i ↔ elB M k = elB M i) ∧ a.r (elB L k) (elB L i) = b.r (elB M k) (elB M i) ∧ a.r (elB L i) (elB L k) = b.r (elB M i) (elB M k))) := by
  unfold fa1
  by_cases h0 : L.getD i 0 < 0
  · rw [if_pos h0]
    exact ⟨fun _ h => by omega, fun _ => rfl⟩
  · rw [if_neg h0]
    by_cases q : a.s (elB L i) = b.s (elB M i)
    · rw [q, if_neg (by simp), fsO_none_iff]
      constructor
      · intro h _
        exact ⟨rfl, fun k hk => (fa3_none (by omega) (hs i) (hs k)).1 (h k hk)⟩
      · intro h j hj
        exact (fa3_none (by omega) (hs i) (hs j)).2 ((h (by omega)).2 j hj)
    · rw [if_pos (by simpa using q)]
      exact ⟨fun h => (by cases h), fun h => absurd (h (by omega)).1 q⟩
theorem gd_app (L : List Int) (x : Int) {i : Nat} (h : i < L.length) : (L ++ [x]).getD i 0 = L.getD i 0 := by
  rw [List.getD_eq_getElem?_getD, List.getD_eq_getElem?_getD, List.getElem?_append_left h]
theorem gd_last (L : List Int) (x : Int) : (L ++ [x]).getD L.length 0 = x := by simp
theorem firstO_iff {a b : Gs.St} : ∀ (k : Nat) {L M : List Int}, L.length = k → M.length = k → (∀ j : Nat, (L.getD j 0 < 0) ↔ (M.getD j 0 < 0)) → (firstO a b L M = none ↔ Gs.same a (layN L) b (layN M) = true)
  | 0, L, M, hl, hm, _ => by
    rw [List.length_eq_zero_iff.1 hl, List.length_eq_zero_iff.1 hm]
    simp [firstO, fsO, layN, Gs.same]
  | k + 1, L, M, hl, hm, hs => by
    rcases snoc_cases L with rfl | ⟨L, x, rfl⟩
    · simp at hl
    rcases snoc_cases M with rfl | ⟨M, y, rfl⟩
    · simp at hm
    rw [List.length_append, List.length_singleton] at hl hm
    have hl2 : L.length = k := by omega
    have hm2 : M.length = k := by omega
    have hs2 : ∀ j : Nat, (L.getD j 0 < 0) ↔ (M.getD j 0 < 0) := fun j => by
      by_cases hj : j < k
      · have := hs j
        rwa [gd_app _ _ (by omega), gd_app _ _ (by omega)] at this
      · rw [List.getD_eq_getElem?_getD, List.getElem?_eq_none (by omega), List.getD_eq_getElem?_getD, List.getElem?_eq_none (by omega)]
    have hxy : x < 0 ↔ y < 0 := by
      have := hs k
      rw [← hl2, gd_last, hl2, ← hm2, gd_last] at this
      exact this
    have ih := firstO_iff (a := a) (b := b) k hl2 hm2 hs2
    have hel : ∀ j, j < k → elB (L ++ [x]) j = elB L j ∧ elB (M ++ [y]) j = elB M j := fun j hj => by
      unfold elB
      rw [gd_app _ _ (by omega), gd_app _ _ (by omega)]
      exact ⟨rfl, rfl⟩
    have hek : elB (L ++ [x]) k = x.toNat ∧ elB (M ++ [y]) k = y.toNat := by
      unfold elB
      constructor
      · rw [← hl2, gd_last]
      · rw [← hm2, gd_last]
    have hgk : (L ++ [x]).getD k 0 = x := by rw [← hl2, gd_last]
    have h1 : firstO a b (L ++ [x]) (M ++ [y]) = none ↔ firstO a b L M = none ∧ fa1 a b (L ++ [x]) (M ++ [y]) k = none := by
      unfold firstO
      rw [List.length_append, List.length_singleton, hl2, fsO_none_iff, fsO_none_iff]
      have hc : ∀ j, j < k → (fa1 a b (L ++ [x]) (M ++ [y]) j = none ↔ fa1 a b L M j = none) := fun j hj => by
        rw [fa1_none hs, fa1_none hs2, gd_app _ _ (by omega), (hel j hj).1, (hel j hj).2]
        constructor
        · intro h h0
          obtain ⟨q1, q2⟩ := h h0
          refine ⟨q1, fun z hz hz0 => ?_⟩
          have := q2 z hz (by rw [gd_app _ _ (by omega)]; exact hz0)
          rwa [(hel z (by omega)).1, (hel z (by omega)).2] at this
        · intro h h0
          obtain ⟨q1, q2⟩ := h h0
          refine ⟨q1, fun z hz hz0 => ?_⟩
          rw [gd_app _ _ (by omega)] at hz0
          rw [(hel z (by omega)).1, (hel z (by omega)).2]
          exact q2 z hz hz0
      constructor
      · intro h
        exact ⟨fun j hj => (hc j hj).1 (h j (by omega)), h k (by omega)⟩
      · rintro ⟨h2, h3⟩ j hj
        by_cases e : j = k
        · rw [e]; exact h3
        · exact (hc j (by omega)).2 (h2 j (by omega))
    rw [h1, ih, fa1_none hs, hgk, layN_snoc, layN_snoc]
    by_cases hx : 0 ≤ x
    · rw [if_pos hx, if_pos (show 0 ≤ y by omega), Gs.same_snoc (layN_len (by omega) hs2).symm, Bool.and_eq_true]
      have hst : Gs.still a (layN L) b (layN M) x.toNat y.toNat = true ↔ (a.s x.toNat = b.s y.toNat ∧ a.r x.toNat x.toNat = b.r y.toNat y.toNat) ∧ ∀ p ∈ (layN L).zip (layN M), (p.1 = x.toNat ↔ p.2 = y.toNat) ∧ a.r p.1 x.toNat = b.r p.2 y.toNat ∧ a.r x.toNat p.1 = b.r y.toNat p.2 := by
        unfold Gs.still
        simp only [Bool.and_eq_true, beq_iff_eq, List.all_eq_true, decide_eq_decide, and_assoc]
      rw [hst, zip_lay (Q := fun p q => (p = x.toNat ↔ q = y.toNat) ∧ a.r p x.toNat = b.r q y.toNat ∧ a.r x.toNat p = b.r y.toNat q) (by omega) hs2, hek.1, hek.2]
      constructor
      · rintro ⟨q0, q⟩
        obtain ⟨q1, q2⟩ := q hx
        refine ⟨q0, ⟨q1, ?_⟩, fun z hz hz0 => ?_⟩
        · have := q2 k (by omega) (by rw [hgk]; exact hx)
          rw [hek.1, hek.2] at this
          exact this.2.1
        · have := q2 z (by omega) (by rw [gd_app _ _ (by omega)]; exact hz0)
          rwa [(hel z (by omega)).1, (hel z (by omega)).2] at this
      · rintro ⟨q0, ⟨q1, q2⟩, q3⟩
        refine ⟨q0, fun _ => ⟨q1, fun z hz hz0 => ?_⟩⟩
        by_cases e : z = k
        · rw [e, hek.1, hek.2]
          exact ⟨⟨fun _ => rfl, fun _ => rfl⟩, q2, q2⟩
        · rw [(hel z (by omega)).1, (hel z (by omega)).2]
          rw [gd_app _ _ (by omega)] at hz0
          exact q3 z (by omega) hz0
    · rw [if_neg hx, if_neg (show ¬ 0 ≤ y by omega)]
      exact ⟨fun h => h.1, fun h => ⟨h, fun h2 => absurd h2 hx⟩⟩
theorem firstA_empty {a b : Gs.St} {n m : Nat} {L M : List Int} (h : Rdy n m L M) : firstA a b L M = ByteArray.empty ↔ Gs.same a (layN L) b (layN M) = true := by
  rw [← firstO_iff L.length rfl h.len.symm h.sg]
  unfold firstA
  cases hc : firstO a b L M with
  | none => simp
  | some s =>
    obtain ⟨j, _, h2, _⟩ := fsO_some hc
    have := (fa1_size h2).2
    constructor
    · intro e
      have e2 : s = ByteArray.empty := e
      rw [e2] at this
      exact absurd this (by decide)
    · intro e; cases e
end Go.Proofs.YtnhlhjehocngcaaGreatDoor

namespace Go.Proofs.YtnhlhjehocngcaaGreatDoor
open Go.RowKit
set_option linter.unusedVariables false
set_option maxRecDepth 100000
theorem Lf.symm {a b : Gs.St} {n m k t : Nat} {cs ds : List (List Nat)} (h : Lf a b n m k t cs ds) : Lf b a m n k t ds cs :=
  ⟨h.ld, h.lc, fun i hi => by
    obtain ⟨h1, h2, h3, h4, h5⟩ := h.at' i hi
    refine ⟨h2, h1, h4, h3, fun L M hL hM hl hm hs => ?_⟩
    have h6 := h5 M L hM hL hm hl (fun j => (hs j).symm)
    rw [pwB_symm i (⟨by omega, hM, hL, fun j => (hs j).symm⟩ : Rdy n m M L)]
    rw [← h6]
    exact eq_comm⟩
theorem mvN_map (t : Nat) (b a : Gs.St) (M L : List Int) (i x : Nat) : mvN t b a M L i x = (mvO t b a M L i x).map (fun s => ⟨#[33]⟩ ++ s) := by
  unfold mvN mvO
  split
  · simp only [Option.map_some]
    unfold quB
    rw [← ba_assoc, ← ba_assoc]
    rfl
  · rfl
theorem fsO_map {α β : Type} (g : Nat → Option α) (f : α → β) : ∀ k, fsO (fun x => (g x).map f) k = (fsO g k).map f
  | 0 => rfl
  | k + 1 => by
    unfold fsO
    rw [fsO_map g f k]
    cases fsO g k <;> rfl
theorem mvN_fs (t : Nat) (b a : Gs.St) (M L : List Int) (i k : Nat) : fsO (mvN t b a M L i) k = (fsO (mvO t b a M L i) k).map (fun s => ⟨#[33]⟩ ++ s) := by
  rw [← fsO_map]
  congr 1
  funext x
  exact mvN_map t b a M L i x
theorem mvO_ne {t : Nat} {a b : Gs.St} {L M : List Int} {i x : Nat} {s : ByteArray} (h : mvO t a b L M i x = some s) : s ≠ ByteArray.empty := by
  unfold mvO at h
  split at h
  · injection h with h
    rw [← h]
    unfold quB
    intro e
    have h3 := congrArg ByteArray.size e
    rw [ByteArray.size_append, ByteArray.size_append] at h3
    have h1 : (⟨#[83]⟩ : ByteArray).size = 1 := rfl
    have h2 : ByteArray.empty.size = 0 := rfl
    omega
  · cases h
theorem fsO_mem {α : Type} {g : Nat → Option α} {s : α} : ∀ {k : Nat}, fsO g k = some s → ∃ x, x < k ∧ g x = some s
  | 0, h => by cases h
  | k + 1, h => by
    unfold fsO at h
    cases e : fsO g k with
    | some z =>
      rw [e] at h
      injection h with h
      subst h
      obtain ⟨x, hx, q⟩ := fsO_mem e
      exact ⟨x, by omega, q⟩
    | none =>
      rw [e] at h
      exact ⟨k, by omega, h⟩
/-- The move's text. -/
def mvT (t : Nat) (a b : Gs.St) (L M : List Int) (i k : Nat) : ByteArray := (fsO (mvO t a b L M i) k).getD ByteArray.empty
theorem mvT_empty {t : Nat} {a b : Gs.St} {L M : List Int} {i k : Nat} : mvT t a b L M i k = ByteArray.empty ↔ fsO (mvO t a b L M i) k = none := by
  unfold mvT
  cases e : fsO (mvO t a b L M i) k with
  | none => simp
  | some s =>
    obtain ⟨x, _, hx⟩ := fsO_mem e
    simp [mvO_ne hx]
/-- A pebble's text, out of both moves. -/
theorem plO_mv (t : Nat) (a b : Gs.St) (L M : List Int) (i : Nat) : plO t a b L M i = if mvT t a b L M i a.n ≠ ByteArray.empty then some (mvT t a b L M i a.n) else if mvT t b a M L i b.n ≠ ByteArray.empty then some (⟨#[33]⟩ ++ mvT t b a M L i b.n) else none := by
  unfold plO
  rw [mvN_fs]
  cases e : fsO (mvO t a b L M i) a.n with
  | some s =>
    rw [if_pos (fun h => by rw [mvT_empty, e] at h; cases h)]
    unfold mvT
    rw [e]; rfl
  | none =>
    rw [if_neg (fun h => h (mvT_empty.2 e))]
    cases e2 : fsO (mvO t b a M L i) b.n with
    | some s =>
      rw [if_pos (fun h => by rw [mvT_empty, e2] at h; cases h)]
      unfold mvT
      rw [e2]; rfl
    | none =>
      rw [if_neg (fun h => h (mvT_empty.2 e2))]; rfl
/-- What the reference's formula is told, in memory. -/
structure Tell (w : World) (n : Nat) (S R : ByteArray) (m : Nat) (S2 R2 : ByteArray) (va vb : Value) (cs ds : List (List Nat)) (T : Nat) (L M : List Int) (v u : Value) : Prop where
  hS : S.size = n
  hR : R.size = n * n
  hS2 : S2.size = m
  hR2 : R2.size = m * m
  hn : n ≤ 8
  hm : m ≤ 8
  n1 : 1 ≤ n
  m1 : 1 ≤ m
  A : LevAt w va cs
  B : LevAt w vb ds
  f : Lf (stOf n S R) (stOf m S2 R2) n m L.length T cs ds
  iv : IntsAt w v L
  iu : IntsAt w u M
  r : Rdy n m L M
  k3 : L.length ≤ 3
section
variable {w w' : World} {n m T : Nat} {S R S2 R2 : ByteArray} {va vb v u v2 u2 : Value} {cs ds : List (List Nat)} {L M : List Int}
theorem Tell.below (h : Tell w n S R m S2 R2 va vb cs ds T L M v u) (hb : Below w.heap.size w w') : Tell w' n S R m S2 R2 va vb cs ds T L M v u :=
  ⟨h.hS, h.hR, h.hS2, h.hR2, h.hn, h.hm, h.n1, h.m1, h.A.below hb, h.B.below hb, h.f, h.iv.below hb, h.iu.below hb, h.r, h.k3⟩
theorem Tell.swap (h : Tell w n S R m S2 R2 va vb cs ds T L M v u) : Tell w m S2 R2 n S R vb va ds cs T M L u v :=
  ⟨h.hS2, h.hR2, h.hS, h.hR, h.hm, h.hn, h.m1, h.n1, h.B, h.A, by rw [← h.r.len]; exact h.f.symm, h.iu, h.iv, h.r.symm, by rw [← h.r.len]; exact h.k3⟩
theorem Rdy.putB (h : Rdy n m L M) (i : Nat) {x y : Nat} (hx : x < n) (hy : y < m) : Rdy n m (L.set i (x : Int)) (M.set i (y : Int)) :=
  ⟨by rw [List.length_set, List.length_set, h.len], Pbs.set h.la i hx, Pbs.set h.lb i hy, fun j => by
    have hl := h.len
    by_cases hi : i < L.length
    · rw [getD_setI _ _ _ _ hi, getD_setI _ _ _ _ (by omega)]
      split
      · omega
      · exact h.sg j
    · rw [List.set_eq_of_length_le (by omega), List.set_eq_of_length_le (by omega)]
      exact h.sg j⟩
theorem Tell.put (h : Tell w n S R m S2 R2 va vb cs ds T L M v u) (i : Nat) {x y : Nat} (hx : x < n) (hy : y < m) (hv : IntsAt w v2 (L.set i (x : Int))) (hu : IntsAt w u2 (M.set i (y : Int))) : Tell w n S R m S2 R2 va vb cs ds T (L.set i (x : Int)) (M.set i (y : Int)) v2 u2 :=
  ⟨h.hS, h.hR, h.hS2, h.hR2, h.hn, h.hm, h.n1, h.m1, h.A, h.B, by rw [List.length_set]; exact h.f, hv, hu, h.r.putB i hx hy, by rw [List.length_set]; exact h.k3⟩
/-- The numbers of a turn tell who wins it. -/
theorem Tell.eq (h : Tell w n S R m S2 R2 va vb cs ds T L M v u) {t : Nat} (ht : t ≤ T) : (cs.getD t []).getD (ixL (n + 1) L) 0 = (ds.getD t []).getD (ixL (m + 1) M) 0 ↔ pwB (stOf n S R) (stOf m S2 R2) n m t L M = true :=
  (h.f.at' t ht).2.2.2.2 L M h.r.la h.r.lb rfl h.r.len.symm h.r.sg
end
/-- What l7Formula and l7Move keep to. -/
def FOK (t : Nat) : Prop := ∀ (n : Nat) (S R : ByteArray) (m : Nat) (S2 R2 : ByteArray) (va vb : Value) (cs ds : List (List Nat)) (T : Nat) (L M : List Int) (v u : Value) (w : World), Tell w n S R m S2 R2 va vb cs ds T L M v u → t ≤ T → T ≤ 3 → pwB (stOf n S R) (stOf m S2 R2) n m t L M = false →
  Calls Tryz.prog 34 #[l7V n S R m S2 R2 va vb, v, u, .int .i64 (t : Int)] w fun e w' => e = .returned (.string (pebF t (stOf n S R) (stOf m S2 R2) L M)) ∧ Below w.heap.size w w'
def MOK (t : Nat) : Prop := ∀ (n : Nat) (S R : ByteArray) (m : Nat) (S2 R2 : ByteArray) (va vb : Value) (cs ds : List (List Nat)) (T : Nat) (L M : List Int) (v u : Value) (i : Nat) (w : World), Tell w n S R m S2 R2 va vb cs ds T L M v u → t + 1 ≤ T → T ≤ 3 → i < L.length →
  Calls Tryz.prog 75 #[l7V n S R m S2 R2 va vb, v, u, .int .i64 ((t + 1 : Nat) : Int), .int .i64 (i : Int)] w fun e w' => e = .returned (.string (mvT t (stOf n S R) (stOf m S2 R2) L M i n)) ∧ Below w.heap.size w w'
end Go.Proofs.YtnhlhjehocngcaaGreatDoor
