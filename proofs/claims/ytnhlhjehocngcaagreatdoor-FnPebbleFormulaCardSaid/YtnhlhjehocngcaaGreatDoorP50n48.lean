/- The walk of the law, and what it leans on last. Conditions: those that each theorem states. -/
import Derived.Test.YtnhlhjehocngcaaGreatDoorP50n47
import Derived.Test.YtnhlhjehocngcaaGreatDoorP50n31
import Derived.Test.YtnhlhjehocngcaaGreatDoorP50n36
import Derived.Test.YtnhlhjehocngcaaGreatDoorP50n42
namespace Go.Proofs.YtnhlhjehocngcaaGreatDoor
open Go.RowKit
set_option linter.unusedVariables false
set_option maxRecDepth 100000
theorem IntsAt.keptP {w w' : World} {v : Value} {L : List Int} (h : IntsAt w v L) (hb : ∀ k, v.ownBlock = some k → k < w.heap.size → w'.heap[k]? = w.heap[k]?) (hs : w.heap.size ≤ w'.heap.size) : IntsAt w' v L := by
  rcases h with h | ⟨g, o, cap, rfl, h1, h2, hg, hc⟩
  · exact .inl h
  · refine .inr ⟨g, o, cap, rfl, h1, h2, Nat.lt_of_lt_of_le hg hs, fun j hj => ?_⟩
    have e := hb g rfl hg
    rw [← hc j hj]
    simp [World.cell?, e]
theorem results_p5 {fn : Func} {p q r s t : Tmp} (h : fn.results = #[.cell p 24, .tmp q, .cell r 24, .tmp s, .tmp t]) {tmps : Array Value} {w : World} {b c : Nat} {n m : Int} {S R T U : ByteArray} {v u z : Value} (hp : tmps.getD p undef = .pointer (some ⟨b, 0, none⟩)) (hb : SBlk w b n S R) (hq : tmps.getD q undef = v) (hr : tmps.getD r undef = .pointer (some ⟨c, 0, none⟩)) (hc : SBlk w c m T U) (hs : tmps.getD s undef = u) (ht : tmps.getD t undef = z) :
    (results fn tmps).run Tryz.prog w = .ok (.tuple #[strV n S R, v, strV m T U, u, z]) w := by
  have hl := run_loadVar_row (P := Tryz.prog) w b 24 24 #[.int .i64 n, .string S, .string R] (0, 0) _ hb Tryz.underlying24 rfl strInfo
  have hl2 := run_loadVar_row (P := Tryz.prog) w c 24 24 #[.int .i64 m, .string T, .string U] (0, 0) _ hc Tryz.underlying24 rfl strInfo
  have hp' : tmps[p]?.getD undef = .pointer (some ⟨b, 0, none⟩) := by simpa using hp
  have hq' : tmps[q]?.getD undef = v := by simpa using hq
  have hr' : tmps[r]?.getD undef = .pointer (some ⟨c, 0, none⟩) := by simpa using hr
  have hs' : tmps[s]?.getD undef = u := by simpa using hs
  have ht' : tmps[t]?.getD undef = z := by simpa using ht
  simp [results, h, hp', hq', hr', hs', ht', asAddr, Sem.run_bind, Result.andThen, hl, hl2, strV]
theorem set3_heapP (wr : World) (g k : Nat) (hg : k ≠ g) (n : Int) (V X : ByteArray) : (((wr.setCell ⟨g, 0, none⟩ (.int .i64 n)).setCell ⟨g, 1, none⟩ (.string V)).setCell ⟨g, 2, none⟩ (.string X)).heap[k]? = wr.heap[k]? := by
  rw [Below.heap_setCell _ _ _ _ (by simp; omega), Below.heap_setCell _ _ _ _ (by simp; omega), Below.heap_setCell _ _ _ _ (by simp; omega)]
theorem set3_sizeP (wr : World) (g : Nat) (n : Int) (V X : ByteArray) : wr.heap.size ≤ (((wr.setCell ⟨g, 0, none⟩ (.int .i64 n)).setCell ⟨g, 1, none⟩ (.string V)).setCell ⟨g, 2, none⟩ (.string X)).heap.size := by simp [World.setCell]
/-- The draw of the law: the reader behind the results' boxes, both structures, both lists. -/
structure Dq (w : World) (B K x : Nat) (n : Int) (S R : ByteArray) (m : Int) (T U : ByteArray) (n1 : Int) (S1 R1 : ByteArray) (n2 : Int) (S2 R2 : ByteArray) (v u : Value) (L M : List Int) (wr : World) : Prop where
  rd : RdB wr B K
  r1 : SBlk wr w.heap.size n1 S1 R1
  r2 : SBlk wr (w.heap.size + 1) n2 S2 R2
  a : SBlk wr x n S R
  c : SBlk wr (x + 1) m T U
  iv : IntsAt wr v L
  iu : IntsAt wr u M
  lv : ∀ k, v.ownBlock = some k → B < k
  lu : ∀ k, u.ownBlock = some k → B < k
  ne : w.heap.size + 1 < B ∧ B < x
  old : Below w.heap.size w wr
section
variable {w wr w' : World} {B K K' x : Nat} {n m n1 n2 k : Int} {S R T U S1 R1 S2 R2 V X : ByteArray} {v u : Value} {L M : List Int}
theorem Dq.pick (h : Dq w B K x n S R m T U n1 S1 R1 n2 S2 R2 v u L M wr) (hr : RdB w' B K') (hg : wr.grownBy w' (some B)) : Dq w B K' x n S R m T U n1 S1 R1 n2 S2 R2 v u L M w' := by
  have hne := h.ne
  have l1 := h.r1.cells.2.2.2.2.2.2
  exact ⟨hr, h.r1.grown hg (by omega), h.r2.grown hg (by omega), h.a.grown hg (by omega), h.c.grown hg (by omega), h.iv.keptP (fun k hk hl => hg.block k hl (by intro e; injection e with e; have := h.lv k hk; omega)) hg.size, h.iu.keptP (fun k hk hl => hg.block k hl (by intro e; injection e with e; have := h.lu k hk; omega)) hg.size, h.lv, h.lu, hne, h.old.grown hg (by omega) (fun k hk => by injection hk with hk; omega)⟩
theorem Dq.below (h : Dq w B K x n S R m T U n1 S1 R1 n2 S2 R2 v u L M wr) (hb : Below wr.heap.size wr w') : Dq w B K x n S R m T U n1 S1 R1 n2 S2 R2 v u L M w' := h.pick (h.rd.grown (grown_belowS hb)) (grown_belowS hb)
theorem Dq.drew (h : Dq w B K x n S R m T U n1 S1 R1 n2 S2 R2 v u L M wr) : Dq w B K x n S R m T U n1 S1 R1 n2 S2 R2 v u L M wr.drew := h.below (Below.refl _ _).drew
end
/-- What the draw gives. -/
def DrawPbP (w : World) (e : Ending) (w' : World) : Prop := ∃ (n m r : Int) (S R T U : ByteArray) (v u : Value) (L M : List Int), (-1 ≤ r ∧ r ≤ 4) ∧ S.size ≤ 10 ∧ R.size ≤ 100 ∧ T.size ≤ 10 ∧ U.size ≤ 100 ∧ L.length ≤ 40 ∧ M.length ≤ 40 ∧
  e = .returned (.tuple #[strV n S R, v, strV m T U, u, .int .i64 r]) ∧ IntsAt w' v L ∧ IntsAt w' u M ∧ Below w.heap.size w w'
set_option maxHeartbeats 4000000 in
theorem DrawPebbleFormula_any (w : World) (a : Option Addr) (len cap : Nat) (zs : List Int) (h : IsRow .u8 w a len cap zs) :
    Calls Tryz.prog 5 #[.slice a len cap] w (DrawPbP w) := by
  obtain ⟨W, hW⟩ : ∃ W, (w.alloc (.cells #[.int .i64 0, .string ⟨#[]⟩, .string ⟨#[]⟩] 24)).alloc (.cells #[.int .i64 0, .string ⟨#[]⟩, .string ⟨#[]⟩] 24) = W := ⟨_, rfl⟩
  have HB0 : Hid (Below w.heap.size w W ∧ SBlk W w.heap.size 0 ⟨#[]⟩ ⟨#[]⟩ ∧ SBlk W (w.heap.size + 1) 0 ⟨#[]⟩ ⟨#[]⟩ ∧ W.heap.size = w.heap.size + 2) := by
    subst hW
    have h1 : Below w.heap.size w (w.alloc (.cells #[.int .i64 0, .string ⟨#[]⟩, .string ⟨#[]⟩] 24)) := (Below.refl _ _).alloc (Nat.le_refl _) _
    have h2 := SBlk.new (w.alloc (.cells #[.int .i64 0, .string ⟨#[]⟩, .string ⟨#[]⟩] 24)) 0 ⟨#[]⟩ ⟨#[]⟩
    rw [World.size_alloc] at h2
    refine ⟨h1.alloc h1.size _, (SBlk.new w 0 ⟨#[]⟩ ⟨#[]⟩).below ((Below.refl _ _).alloc (Nat.le_refl _) _) (by simp), h2, by simp⟩
  have H := Lib.hid (h.below HB0.out.1); clear h
  have HW := Lib.hid hW; clear hW
  go_enter Tryz.func5, Tryz.ntmps5
  go_upto_region 1 with fail
  rw [HW.out]
  go_wp2_with fail
  refine (l15Open_any _ _ _ _ _ H.out).mono ?_; rintro e w1 ⟨rfl, hr, hb, hs⟩
  have HR1 := Lib.hid hr
  have hWz := HB0.out.2.2.2
  have HBL1 := Lib.hid (HB0.out.1.trans (hb.mono HB0.out.1.size))
  have HX1 : Hid (SBlk w1 w.heap.size 0 ⟨#[]⟩ ⟨#[]⟩ ∧ SBlk w1 (w.heap.size + 1) 0 ⟨#[]⟩ ⟨#[]⟩) := ⟨HB0.out.2.1.below hb (by omega), HB0.out.2.2.1.below hb (by omega)⟩
  have hlt : w.heap.size + 1 < W.heap.size := by omega
  clear hr hb hs hWz
  generalize W.heap.size = B at *
  have hB1 := HR1.out.block
  go_wp2_with fail
  refine (l7Some_any B _ w1 HR1.out (by omega)).mono ?_; rintro e w2 ⟨n, m, S, R, T, U, v, u, L, M, hn, hm, hS, hR, hT, hU, hL, hM, rfl, ha, hc, la, lb, hr, hg⟩
  have HD : Hid (Dq w B (0 + 300) w2.heap.size n S R m T U 0 ⟨#[]⟩ ⟨#[]⟩ 0 ⟨#[]⟩ ⟨#[]⟩ v u L M ((w2.alloc (.cells #[.int .i64 n, .string S, .string R] 24)).alloc (.cells #[.int .i64 m, .string T, .string U] 24))) := by
    have hsz := hg.size
    have b1 : Below w2.heap.size w2 (w2.alloc (.cells #[.int .i64 n, .string S, .string R] 24)) := (Below.refl _ _).alloc (Nat.le_refl _) _
    have b2 : Below (w2.alloc (.cells #[.int .i64 n, .string S, .string R] 24)).heap.size (w2.alloc (.cells #[.int .i64 n, .string S, .string R] 24)) ((w2.alloc (.cells #[.int .i64 n, .string S, .string R] 24)).alloc (.cells #[.int .i64 m, .string T, .string U] 24)) := (Below.refl _ _).alloc (Nat.le_refl _) _
    have b3 := b1.trans (b2.mono b1.size)
    have x1 : SBlk w2 w.heap.size 0 ⟨#[]⟩ ⟨#[]⟩ := HX1.out.1.grown hg (by omega)
    have x2 : SBlk w2 (w.heap.size + 1) 0 ⟨#[]⟩ ⟨#[]⟩ := HX1.out.2.grown hg (by omega)
    have hA := SBlk.new w2 n S R
    have hC := SBlk.new (w2.alloc (.cells #[.int .i64 n, .string S, .string R] 24)) m T U
    rw [World.size_alloc] at hC
    refine ⟨rdB_bel hr b3, x1.below b3 x1.cells.2.2.2.2.2.2, x2.below b3 x2.cells.2.2.2.2.2.2, hA.below b2 hA.cells.2.2.2.2.2.2, hC, ha.below b3, hc.below b3, fun k hk => ?_, fun k hk => ?_, ⟨by omega, by omega⟩, ?_⟩
    · have := la k hk; omega
    · have := lb k hk; omega
    · have h4 := below_of_grown HBL1.out (by omega) hg
      exact h4.trans (b3.mono h4.size)
  clear hr hg ha hc la lb HX1 HBL1 HR1
  obtain ⟨W3, hW3⟩ : ∃ W, (w2.alloc (.cells #[.int .i64 n, .string S, .string R] 24)).alloc (.cells #[.int .i64 m, .string T, .string U] 24) = W := ⟨_, rfl⟩
  rw [hW3] at HD
  have HW3 := Lib.hid hW3
  clear hW3
  unfold strV
  go_upto_region 3 with fail
  rw [HW3.out]
  generalize w2.heap.size = x6 at *
  have hne := HD.out.ne
  obtain ⟨c0, c1, c2, f0, f1, f2, hl⟩ := HD.out.a.cells
  obtain ⟨e0, e1, e2, _, _, _, l9⟩ := HD.out.c.cells
  obtain ⟨g0, g1, g2, i0, i1, i2, hl1⟩ := HD.out.r1.cells
  obtain ⟨k0, k1, k2, j0, j1, j2, hl2⟩ := HD.out.r2.cells
  have hy0 : w.heap.size ≠ x6 := by omega
  have hy1 : w.heap.size + 1 ≠ x6 := by omega
  have hy2 : w.heap.size ≠ x6 + 1 := by omega
  have hy3 : w.heap.size + 1 ≠ x6 + 1 := by omega
  have HN := Lib.hid (fun T => num_list W3.drew B _ [1, 2, 0, 3, 2, 4, -1] T HD.out.drew.rd (by omega) (by decide) (by decide))
  go_wp2_with fail
  go_region_held3 (fun w' => w'.cell? ⟨x6, 0, none⟩ = some (.int .i64 n) ∧ w'.cell? ⟨x6, 1, none⟩ = some (.string S) ∧ w'.cell? ⟨x6, 2, none⟩ = some (.string R) ∧ w'.cell? ⟨x6 + 1, 0, none⟩ = some (.int .i64 m) ∧ w'.cell? ⟨x6 + 1, 1, none⟩ = some (.string T) ∧ w'.cell? ⟨x6 + 1, 2, none⟩ = some (.string U))
    (go_keep)
    (first
      | (go_at_call 25; refine (HN.out _).mono ?_; rintro e wq ⟨r, hr0, rfl, hr, hg⟩; have HD5 := Lib.hid (HD.out.drew.pick hr hg); clear hr hg; obtain ⟨c0, c1, c2, f0, f1, f2, hl⟩ := HD5.out.a.cells; obtain ⟨e0, e1, e2, _, _, _, l9⟩ := HD5.out.c.cells; obtain ⟨g0, g1, g2, i0, i1, i2, hl1⟩ := HD5.out.r1.cells; obtain ⟨k0, k1, k2, j0, j1, j2, hl2⟩ := HD5.out.r2.cells))
  all_goals
    have hr9 : -1 ≤ r ∧ r ≤ 4 := by
      simp at hr0
      omega
    have HS1 := Lib.hid (And.intro (HD5.out.r1.set3 (n' := n) (S' := S) (R' := R)) (((HD5.out.r2.far (p := ⟨w.heap.size, 0, none⟩) (by simp) (.int .i64 n)).far (p := ⟨w.heap.size, 1, none⟩) (by simp) (.string S)).far (p := ⟨w.heap.size, 2, none⟩) (by simp) (.string R)))
    have HS2 := Lib.hid (And.intro (((HS1.out.1.far (p := ⟨w.heap.size + 1, 0, none⟩) (by simp) (.int .i64 m)).far (p := ⟨w.heap.size + 1, 1, none⟩) (by simp) (.string T)).far (p := ⟨w.heap.size + 1, 2, none⟩) (by simp) (.string U)) (HS1.out.2.set3 (n' := m) (S' := T) (R' := U)))
    have HP : Hid (DrawPbP w (.returned (.tuple #[strV n S R, v, strV m T U, u, .int .i64 r])) ((((((wq.setCell ⟨w.heap.size, 0, none⟩ (.int .i64 n)).setCell ⟨w.heap.size, 1, none⟩ (.string S)).setCell ⟨w.heap.size, 2, none⟩ (.string R)).setCell ⟨w.heap.size + 1, 0, none⟩ (.int .i64 m)).setCell ⟨w.heap.size + 1, 1, none⟩ (.string T)).setCell ⟨w.heap.size + 1, 2, none⟩ (.string U))) :=
      ⟨n, m, r, S, R, T, U, v, u, L, M, hr9, hS, hR, hT, hU, hL, hM, rfl,
        (HD5.out.iv.keptP (fun j hj _ => set3_heapP _ _ _ (by have := HD5.out.lv j hj; omega) _ _ _) (set3_sizeP _ _ _ _ _)).keptP (fun j hj _ => set3_heapP _ _ _ (by have := HD5.out.lv j hj; omega) _ _ _) (set3_sizeP _ _ _ _ _),
        (HD5.out.iu.keptP (fun j hj _ => set3_heapP _ _ _ (by have := HD5.out.lu j hj; omega) _ _ _) (set3_sizeP _ _ _ _ _)).keptP (fun j hj _ => set3_heapP _ _ _ (by have := HD5.out.lu j hj; omega) _ _ _) (set3_sizeP _ _ _ _ _),
        (((((HD5.out.old.setCell (Nat.le_refl _) _).setCell (Nat.le_refl _) _).setCell (Nat.le_refl _) _).setCell (Nat.le_succ _) _).setCell (Nat.le_succ _) _).setCell (Nat.le_succ _) _⟩
    go_wp2_with fail
    refine bodyPost_ret (v := .tuple #[strV n S R, v, strV m T U, u, .int .i64 r]) ?_ rfl HP.out
    exact results_p5 rfl rfl HS2.out.1 rfl rfl HS2.out.2 rfl rfl
end Go.Proofs.YtnhlhjehocngcaaGreatDoor

namespace Go.Proofs.YtnhlhjehocngcaaGreatDoor
open Go.RowKit
set_option linter.unusedVariables false
set_option maxRecDepth 100000
theorem rowLen50 {k : IntKind} {w : World} {a : Option Addr} {len cap : Nat} {zs : List Int} (h : IsRow k w a len cap zs) : len ≤ maxLen := by
  rcases h with ⟨_, h, _⟩ | ⟨_, _, h1, h2, _⟩
  · rw [h]; decide
  · omega
theorem pfRes_yes {n m K : Int} {S R S2 R2 X : ByteArray} {L M : List Int} (h : pfRes n S R L m S2 R2 M K = .tuple #[.string X, .bool true]) :
    ∃ nn mm t : Nat, n = (nn : Int) ∧ m = (mm : Int) ∧ K = (t : Int) ∧ t ≤ 3 ∧ pebRdB (nn : Int) S R L (mm : Int) S2 R2 M = true ∧ pwB (stOf nn S R) (stOf mm S2 R2) nn mm t L M = false ∧ X = pebF t (stOf nn S R) (stOf mm S2 R2) L M := by
  unfold pfRes at h
  split at h
  · rename_i hc
    simp only [Bool.and_eq_true, Bool.not_eq_true', decide_eq_true_eq] at hc
    obtain ⟨⟨⟨h1, h2⟩, h3⟩, h4⟩ := hc
    obtain ⟨nn, rfl⟩ := nat_of_validP (show validB n S R = true by unfold pebRdB at h1; simp only [Bool.and_eq_true] at h1; exact h1.1)
    obtain ⟨mm, rfl⟩ := nat_of_validP (show validB m S2 R2 = true by unfold pebRdB at h1; simp only [Bool.and_eq_true] at h1; exact h1.2.1)
    obtain ⟨t, rfl⟩ := Int.eq_ofNat_of_zero_le h2
    refine ⟨nn, mm, t, rfl, rfl, rfl, by omega, h1, by simpa using h4, ?_⟩
    have h5 : #[Value.string (pebF (t : Int).toNat (stOf (nn : Int).toNat S R) (stOf (mm : Int).toNat S2 R2) L M), Value.bool true] = #[Value.string X, Value.bool true] := by injection h
    have h6 := congrArg (fun a => a.getD 0 undef) h5
    have h7 : Value.string (pebF (t : Int).toNat (stOf (nn : Int).toNat S R) (stOf (mm : Int).toNat S2 R2) L M) = Value.string X := h6
    injection h7 with h7
    rw [← h7]
    simp
  · have h5 : #[Value.string ByteArray.empty, Value.bool false] = #[Value.string X, Value.bool true] := by injection h
    have h6 := congrArg (fun a => a.getD 1 undef) h5
    have h7 : Value.bool false = Value.bool true := h6
    injection h7 with h7
    cases h7
theorem pfRes_form (n : Int) (S R : ByteArray) (L : List Int) (m : Int) (S2 R2 : ByteArray) (M : List Int) (K : Int) : ∃ X b, pfRes n S R L m S2 R2 M K = .tuple #[.string X, .bool b] := by
  unfold pfRes
  split
  · exact ⟨_, _, rfl⟩
  · exact ⟨_, _, rfl⟩
/-- What is known where a formula is told. -/
structure PfOk (X : ByteArray) (n : Nat) (S R : ByteArray) (m : Nat) (S2 R2 : ByteArray) (t : Nat) (L M : List Int) (φ : Fm.T) : Prop where
  rd : readB X = some φ
  rank : Fm.rank φ ≤ t
  plain : plainF φ = true
  free : ∀ u : Fin 4, (Fm.free φ).testBit u.val = true → u.val < L.length ∧ 0 ≤ L.getD u.val 0
  vars : ∀ u : Fin 4, (Fm.vars φ).testBit u.val = true → u.val < L.length
  yes : Fm.holds (stOf n S R) φ (envP L) = true
  no : Fm.holds (stOf m S2 R2) φ (envP M) = false
theorem pf_ok {n m t : Nat} {S R S2 R2 : ByteArray} {L M : List Int} (hrd : pebRdB (n : Int) S R L (m : Int) S2 R2 M = true) (ht : t ≤ 3) (hp : pwB (stOf n S R) (stOf m S2 R2) n m t L M = false) : ∃ φ, PfOk (pebF t (stOf n S R) (stOf m S2 R2) L M) n S R m S2 R2 t L M φ := by
  obtain ⟨hva, hvb, hrdy, hk1, hk3⟩ := ready_rdy hrd
  obtain ⟨hn1, hn8, _⟩ := valid_is hva
  obtain ⟨hm1, hm8, _⟩ := valid_is hvb
  obtain ⟨φ, h1, h2, h3, h4, h5, h6, h7⟩ := pebF_tells t (stOf n S R) (stOf m S2 R2) L M hn1 hm1 hrdy hk3 hp
  refine ⟨φ, ?_, h2, h3, h4, h5, h6, h7⟩
  have hz := pebF_size t (stOf n S R) (stOf m S2 R2) L M hn1 hn8 hm1 hm8
  have hz2 := szF_three ht
  unfold readB
  refine Fm.read_iff.2 ⟨h1, ?_⟩
  rw [Array.length_toList]
  show (pebF t (stOf n S R) (stOf m S2 R2) L M).size ≤ 4000
  omega
/-- The elements under the pebbles, the first one for a pebble beside. -/
def upL (L : List Int) : List Int := L.map fun x => max x 0
theorem upL_nums (L : List Int) : (upL L).map Int.toNat = L.map Int.toNat := by
  unfold upL
  rw [List.map_map]
  congr 1
  funext x
  show (max x 0).toNat = x.toNat
  omega
theorem env_up (L : List Int) : envL (L.map Int.toNat) = envP L := by
  funext u
  show (L.map Int.toNat).getD u.val 0 = (L.getD u.val 0).toNat
  by_cases h : u.val < L.length
  · simp [h]
  · simp [h]
theorem up_lt {n : Nat} {L : List Int} (hp : Pbs n L) (hn : 1 ≤ n) : ∀ j, j < (L.map Int.toNat).length → (L.map Int.toNat).getD j 0 < n := by
  intro j hj
  rw [List.length_map] at hj
  have h := hp.at hj
  have e : (L.map Int.toNat).getD j 0 = (L.getD j 0).toNat := by simp [hj]
  rw [e]
  omega
theorem upL_take (L : List Int) (j : Nat) (h : j < L.length) : upL (L.take (j + 1)) = upL (L.take j) ++ [max (L.getD j 0) 0] := by
  unfold upL
  rw [List.take_succ_eq_append_getElem h, List.map_append, List.getD_eq_getElem?_getD, List.getElem?_eq_getElem h]
  rfl
theorem Pr2.pushA {w wr w' : World} {va vb va' : Value} {A B A' : List Int} (h : Pr2 w va vb A B wr) (ho : OwnI w.heap.size w' va' A') (hg : wr.grownBy w' va.ownBlock) (hn : va'.ownBlock = va.ownBlock ∨ ∃ g, va'.ownBlock = some g ∧ wr.heap.size ≤ g) : Pr2 w va' vb A' B w' := by
  obtain ⟨g, hv, h1, h2⟩ := h.a.block
  obtain ⟨j, hj, h3, h4⟩ := h.b.block
  have hne := h.ne
  refine ⟨ho, h.b.kept (fun k hk hl => hg.block k hl (fun e => hne (by rw [← e, hk]))) hg.size, ?_, h.old.grown hg h.old.size (fun k hk => by rw [hv] at hk; injection hk with hk; omega)⟩
  rcases hn with e | ⟨g2, e, h5⟩
  · rw [e]; exact hne
  · rw [e, hj]; intro e2; injection e2 with e2; omega
theorem Pr2.new (w : World) : Pr2 w (.slice (some ⟨w.heap.size, 0, none⟩) 0 0) (.slice (some ⟨w.heap.size + 1, 0, none⟩) 0 0) [] [] ((w.alloc (.cells #[] 3)).alloc (.cells #[] 3)) := by
  have hb1 : Below w.heap.size w (w.alloc (.cells #[] 3)) := (Below.refl _ _).alloc (Nat.le_refl _) _
  have hb2 : Below (w.alloc (.cells #[] 3)).heap.size (w.alloc (.cells #[] 3)) ((w.alloc (.cells #[] 3)).alloc (.cells #[] 3)) := (Below.refl _ _).alloc (Nat.le_refl _) _
  have h2 := OwnI.lit0 w.heap.size (w.alloc (.cells #[] 3)) (by simp)
  rw [World.size_alloc] at h2
  refine ⟨(OwnI.lit0 w.heap.size w (Nat.le_refl _)).below hb2, h2, ?_, hb1.trans (hb2.mono (by simp))⟩
  show some w.heap.size ≠ some (w.heap.size + 1)
  intro e; injection e with e; omega
set_option maxHeartbeats 8000000 in
theorem fnPebbleFormula_walk (a0 : Option Addr) (len0 cap0 : Nat) (z0 : List Int) (w : World) (w0 : IsRow .u8 w a0 len0 cap0 z0) :
    Calls Tryz.prog 3 #[.slice a0 len0 cap0] w fun e w' => e = .returned (.bool true) ∧ Below w.heap.size w w' := by
  have hlen := rowLen50 w0
  unfold maxLen at hlen
  by_cases hl0 : (1048576 : Int) < (len0 : Int)
  · go_enter Tryz.func3, Tryz.ntmps3
    go_wp2_with fail
    go_ret
    exact ⟨rfl, Below.refl _ _⟩
  have HDR := Lib.hid (DrawPebbleFormula_any w a0 len0 cap0 z0 w0)
  clear w0
  go_enter Tryz.func3, Tryz.ntmps3
  go_wp2_with fail
  refine HDR.out.mono ?_; rintro e w1 ⟨n, m, r, S, R, T, U, v, u, L, M, hr, hS, hR, hT, hU, hL, hM, rfl, hv, hu, hb1⟩
  have b1 : Below w1.heap.size w1 (w1.alloc (.cells #[.int .i64 n, .string S, .string R] 24)) := (Below.refl _ _).alloc (Nat.le_refl _) _
  have b2 : Below (w1.alloc (.cells #[.int .i64 n, .string S, .string R] 24)).heap.size (w1.alloc (.cells #[.int .i64 n, .string S, .string R] 24)) ((w1.alloc (.cells #[.int .i64 n, .string S, .string R] 24)).alloc (.cells #[.int .i64 m, .string T, .string U] 24)) := (Below.refl _ _).alloc (Nat.le_refl _) _
  have b3 := b1.trans (b2.mono b1.size)
  have HD : Hid (Bxp w1 ((w1.alloc (.cells #[.int .i64 n, .string S, .string R] 24)).alloc (.cells #[.int .i64 m, .string T, .string U] 24)) n S R m T U ∧ Below w.heap.size w w1) := ⟨Bxp.new w1 n S R m T U, hb1⟩
  have HIV := Lib.hid (And.intro hv hu)
  obtain ⟨X, b, hform⟩ := pfRes_form n S R L m T U M r
  have HPI : Hid (∀ W, Below w1.heap.size w1 W → _) := fun W hb => implPebbleFormula_any n m S R T U L M r v u W (by omega) (by omega) (by omega) (by omega) (hv.below hb) (hu.below hb)
  have HPS : Hid (∀ W, Below w1.heap.size w1 W → _) := fun W hb => specPebbleFormula_any n m S R T U L M r v u W (by omega) (by omega) (by omega) (by omega) (hv.below hb) (hu.below hb)
  rw [hform] at HPI HPS
  have HFORM := Lib.hid hform
  obtain ⟨a1, ca, rfl, hv1, hv2, hv3⟩ := hv.view
  obtain ⟨b1', cb, rfl, hu1, hu2, hu3⟩ := hu.view
  unfold maxLen at hv2 hu2
  have HVC := Lib.hid (And.intro hv3 hu3)
  clear hv hu hb1 b1 b2 b3 hform hv3 hu3 HDR
  obtain ⟨W3, hW3⟩ : ∃ W, (w1.alloc (.cells #[.int .i64 n, .string S, .string R] 24)).alloc (.cells #[.int .i64 m, .string T, .string U] 24) = W := ⟨_, rfl⟩
  rw [hW3] at HD
  have HW3 := Lib.hid hW3
  clear hW3
  unfold strV at *
  go_upto_region 4 with fail
  rw [HW3.out]
  clear HW3
  obtain ⟨c0, c1, c2, _⟩ := HD.out.1.a.cells
  obtain ⟨d0, d1, d2, _⟩ := HD.out.1.b.cells
  go_wp2_with fail
  refine (HPI.out _ HD.out.1.old).mono ?_; rintro e w4 ⟨rfl, hb⟩
  have HD4 : Hid (Bxp w1 w4 n S R m T U ∧ Below w.heap.size w w1) := ⟨HD.out.1.below hb, HD.out.2⟩
  clear hb c0 c1 c2 d0 d1 d2 HD HPI
  obtain ⟨c0, c1, c2, _⟩ := HD4.out.1.a.cells
  obtain ⟨d0, d1, d2, _⟩ := HD4.out.1.b.cells
  go_wp2_with fail
  refine (HPS.out _ HD4.out.1.old).mono ?_; rintro e w5 ⟨rfl, hb⟩
  have HD5 : Hid (Bxp w1 w5 n S R m T U ∧ Below w.heap.size w w1) := ⟨HD4.out.1.below hb, HD4.out.2⟩
  clear hb c0 c1 c2 d0 d1 d2 HD4 HPS
  cases b
  · have HE := Lib.hid (HD5.out.2.trans (HD5.out.1.old.mono HD5.out.2.size))
    go_wp2_with fail
    go_ret
    exact ⟨rfl, HE.out⟩
  obtain ⟨nn, mm, t, rfl, rfl, rfl, ht3, hrd, hpw, hX⟩ := pfRes_yes HFORM.out
  obtain ⟨φ, hok⟩ := pf_ok hrd ht3 hpw
  rw [← hX] at hok
  have hrdy := ready_rdy hrd
  obtain ⟨hva, hvb, hry, hk1, hk3⟩ := hrdy
  obtain ⟨hn1, hn8, _⟩ := valid_is hva
  obtain ⟨hm1, hm8, _⟩ := valid_is hvb
  have hXz : X.size ≤ 4000 := by
    have h1 := hok.rd
    unfold readB at h1
    have h2 := (Fm.read_iff.1 h1).2
    rw [Array.length_toList] at h2
    exact h2
  have HFV := Lib.hid (fun W => FreeVars_is X φ hok.rd (by omega) W)
  have HWO := Lib.hid (fun W => WidthOf_is X φ hok.rd (by omega) W)
  have HCO := Lib.hid (fun W => CountsOf_no X φ hok.rd hok.plain (by omega) W)
  have HRK : Hid (∀ W, Calls Tryz.prog 11 #[.string X] W fun e w' => e = .returned (.int .i64 (Fm.rank φ : Int)) ∧ Below W.heap.size W w') := fun W => by
    have h1 := RankOf_any X W (by omega)
    have h2 : rankV X = (Fm.rank φ : Int) := by unfold rankV; rw [hok.rd]
    rw [h2] at h1
    exact h1
  have HSE : Hid (∀ (v' u' : Value) W, NumsAt W v' (L.map Int.toNat) → NumsAt W u' (M.map Int.toNat) → _) := fun v' u' W h1 h2 => Separates_yes X φ hok.rd (by omega) nn S R hva mm T U hvb (L.map Int.toNat) (M.map Int.toNat) (by rw [List.length_map, List.length_map, hry.len]) (by rw [List.length_map]; exact hk1) (by rw [List.length_map]; exact hk3) (fun u hu => by rw [List.length_map]; exact (hok.free u hu).1) (up_lt hry.la hn1) (up_lt hry.lb hm1) (by rw [env_up]; exact hok.yes) (by rw [env_up]; exact hok.no) v' u' W h1 h2
  have HPW : Hid (∀ W, Below w1.heap.size w1 W → _) := fun W hb => PebblesWin_any nn mm t S R T U L M _ _ W (HIV.out.1.below hb) (HIV.out.2.below hb) hrd ht3
  rw [hpw] at HPW
  have HWI := vtL_le (s := Fm.vars φ) (n := L.length) (by omega) hok.vars
  have HFR := Lib.hid (fun (i : Nat) (hi : i < (vtL (Fm.free φ) 4).size) => vtL_at hi)
  have HFK := Lib.hid hok.free
  have hrk := hok.rank
  have HLM := Lib.hid hry.len
  have hVS : (vtL (Fm.free φ) 4).size ≤ 4 := vtL_size _ _
  clear hok hX hrd hpw hva hvb HFORM
  generalize Fm.rank φ = rk at *
  generalize vtL (Fm.vars φ) 4 = VW at *
  generalize vtL (Fm.free φ) 4 = VF at *
  generalize Fm.free φ = fr at *
  unfold strV at HSE HPW
  have HPR := Lib.hid (Pr2.new w5)
  go_upto_region 9 with fail
  obtain ⟨W6, hW6⟩ : ∃ W, (w5.alloc (.cells #[] 3)).alloc (.cells #[] 3) = W := ⟨_, rfl⟩
  rw [hW6] at HPR ⊢
  clear hW6
  obtain ⟨xa, hxa⟩ : ∃ x, w5.heap.size = x := ⟨_, rfl⟩
  rw [hxa] at HPR ⊢
  have HXA := Lib.hid hxa
  clear hxa
  go_wp2_with fail
  go_loopw [12, 13, 14] (fun p q i wr => ∃ j : Nat, j ≤ L.length ∧ i = .int .i64 (j : Int) ∧ Hid (Pr2 w5 p q (upL (L.take j)) (upL (M.take j)) wr)) (fun _ _ i _ => L.length - (intOf i).toNat)
  case atStart => exact ⟨0, by omega, rfl, HPR.out⟩
  case round =>
    clear HPR
    obtain ⟨j, hj, rfl, HP⟩ := hrel
    obtain ⟨g, o, rfl, hg, hc⟩ := HVC.out.1 (by omega)
    obtain ⟨g2, o2, rfl, hg2, hc2⟩ := HVC.out.2 (by have := HLM.out; omega)
    have HCE : Hid ((∀ W j, Below w5.heap.size w5 W → j < L.length → W.cell? ⟨g, o + j, none⟩ = some (.int .i64 (L.getD j 0))) ∧ ∀ W j, Below w5.heap.size w5 W → j < M.length → W.cell? ⟨g2, o2 + j, none⟩ = some (.int .i64 (M.getD j 0))) := by
      have hs := HD5.out.1.old.size
      refine ⟨fun W j hb hj => ?_, fun W j hb hj => ?_⟩
      · exact ((HD5.out.1.old.trans (hb.mono hs)).cell (p := ⟨g, o + j, none⟩) hg).trans (hc j hj)
      · exact ((HD5.out.1.old.trans (hb.mono hs)).cell (p := ⟨g2, o2 + j, none⟩) hg2).trans (hc2 j hj)
    clear hc hc2 hg hg2
    by_cases hlt : j < L.length
    · have hjI : (j : Int) < (L.length : Int) := by omega
      have hjI2 : (j : Int) < (M.length : Int) := by have := HLM.out; omega
      have HT1 := Lib.hid (upL_take L j hlt)
      have HT2 := Lib.hid (upL_take M j (by have := HLM.out; omega))
      have HCX : Hid (∀ W, Below w5.heap.size w5 W → W.cell? ⟨g, o + j, none⟩ = some (.int .i64 (L.getD j 0)) ∧ W.cell? ⟨g2, o2 + j, none⟩ = some (.int .i64 (M.getD j 0))) := fun W hb => ⟨HCE.out.1 W j hb hlt, HCE.out.2 W j hb (by have := HLM.out; omega)⟩
      have HL1 : Hid ((upL (L.take j)).length ≤ 2000000 ∧ (upL (M.take j)).length ≤ 2000000) := by
        unfold upL
        rw [List.length_map, List.length_map, List.length_take, List.length_take]
        exact ⟨by omega, by omega⟩
      generalize L.getD j 0 = x at *
      generalize M.getD j 0 = y at *
      obtain ⟨dx, hdx⟩ : ∃ d, max x 0 = d := ⟨_, rfl⟩
      obtain ⟨dy, hdy⟩ : ∃ d, max y 0 = d := ⟨_, rfl⟩
      rw [hdx] at HT1
      rw [hdy] at HT2
      obtain ⟨e1, e2⟩ := HCX.out wr HP.out.old
      generalize upL (L.take j) = LA at *
      generalize upL (M.take j) = LB at *
      go_upto_region 13 with (first | (at_builtin; refine wpList_ownI2 HP.out.a HL1.out.1 rfl (.tmp 75) (.tmp 81) rfl dx _ rfl rfl rfl ?_; intro v' w' ho hg hn; have HP5 := Lib.hid (HP.out.pushA ho hg hn); clear ho hg hn e1 e2; obtain ⟨e1, e2⟩ := HCX.out w' HP5.out.old) | fail)
      go_upto_region 11 with (first | (at_builtin; refine wpList_ownI2 HP5.out.b HL1.out.2 rfl (.tmp 83) (.tmp 89) rfl dy _ rfl rfl rfl ?_; intro u' w'' ho hg hn; have HP6 := Lib.hid (HP5.out.swap.pushA ho hg hn).swap; clear ho hg hn) | fail)
      clear e1 e2 HCX HP HP5 hdx hdy
      go_wp2_with fail
      go_roundw
      case rel => exact ⟨j + 1, by omega, by go_num, by rw [HT1.out, HT2.out]; exact HP6.out⟩
      case measure => simp [intOf]; omega
    · obtain rfl : j = L.length := by omega
      have HN : Hid (NumsAt wr u12 (L.map Int.toNat) ∧ NumsAt wr u13 (M.map Int.toNat) ∧ Below w5.heap.size w5 wr) := by
        have h := HP.out
        have hlm := HLM.out
        rw [List.take_length, hlm, List.take_length] at h
        have pos : ∀ (Q : List Int), ∀ z ∈ upL Q, 0 ≤ z := fun Q z hz => by
          obtain ⟨q, _, rfl⟩ := List.mem_map.1 hz
          show 0 ≤ max q 0
          omega
        have n1 := h.a.ints.nums (pos L)
        have n2 := h.b.ints.nums (pos M)
        rw [upL_nums] at n1 n2
        exact ⟨n1, n2, h.old⟩
      clear HP
      go_wp2_with fail
      refine (HFV.out _).mono ?_; rintro e w7 ⟨rfl, hb7⟩
      have HN7 : Hid (NumsAt w7 u12 (L.map Int.toNat) ∧ NumsAt w7 u13 (M.map Int.toNat) ∧ Below w5.heap.size w5 w7) := ⟨HN.out.1.below hb7, HN.out.2.1.below hb7, HN.out.2.2.trans (hb7.mono HN.out.2.2.size)⟩
      clear hb7 HN
      go_wp2_with fail
      go_loop [16] (fun q => ∃ i : Nat, i ≤ VF.size ∧ q = .int .i64 (i : Int)) (fun q => VF.size - (intOf q).toNat)
      case atStart => exact ⟨0, by omega, rfl⟩
      case round =>
        obtain ⟨i, hi, rfl⟩ := hrel
        by_cases hlt2 : i < VF.size
        · have hiI : (i : Int) < (VF.size : Int) := by omega
          obtain ⟨uu, hu1, hu2⟩ := HFR.out i hlt2
          obtain ⟨hu3, hu4⟩ := HFK.out uu hu1
          have e1 := HCE.out.1 w7 uu.val HN7.out.2.2 hu3
          obtain ⟨bt, hbt⟩ : ∃ x, VF[i] = x := ⟨_, rfl⟩
          rw [hbt] at hu2
          obtain ⟨kv, hkv⟩ : ∃ kv, uu.val = kv := ⟨_, rfl⟩
          rw [hkv] at hu2 hu3 hu4 e1
          generalize L.getD kv 0 = lk at *
          have hk4 : kv < 4 := by omega
          obtain ⟨z, hz⟩ : ∃ z, bt.toNat = z := ⟨_, rfl⟩
          rw [hz] at hu2
          have hzI : (z : Int) ≤ 255 := by omega
          have hk97 : (z : Int) - 97 = (kv : Int) := by omega
          have hkI : (kv : Int) < (L.length : Int) := by omega
          have hlk : ¬ lk < 0 := by omega
          have hkge : ¬ (L.length : Int) ≤ (kv : Int) := by omega
          have hkgB : decide ((L.length : Int) ≤ (kv : Int)) = false := decide_eq_false hkge
          clear hu2 hu1 hkv
          go_wp2_with fail
          go_round
          case rel => exact ⟨i + 1, by omega, by go_num⟩
          case measure => simp [intOf]; omega
        · obtain rfl : i = VF.size := by omega
          have HO7 : Hid (Below w1.heap.size w1 w7) := HD5.out.1.old.trans (HN7.out.2.2.mono HD5.out.1.old.size)
          have HD7 := Lib.hid (HD5.out.1.below HN7.out.2.2)
          obtain ⟨c0, c1, c2, _⟩ := HD7.out.a.cells
          obtain ⟨d0, d1, d2, _⟩ := HD7.out.b.cells
          obtain ⟨pa, pc, rfl, p1, p2, p3⟩ := HN7.out.1.view
          obtain ⟨qa, qc, rfl, q1, q2, q3⟩ := HN7.out.2.1.view
          have h7 := HSE.out _ _ w7 HN7.out.1 HN7.out.2.1
          rw [List.length_map, List.length_map] at h7 ⊢
          have HS7 := Lib.hid h7
          clear h7
          have HZ := Lib.hid HD5.out.2
          clear p1 p2 p3 q1 q2 q3
          go_wp2_with fail
          refine HS7.out.mono ?_; rintro e w8 ⟨rfl, hb⟩
          have HD8 := Lib.hid (HD7.out.below hb)
          clear hb c0 c1 c2 d0 d1 d2 HD7 HS7 HN7 HO7
          go_wp2_with fail
          refine (HWO.out _).mono ?_; rintro e w9 ⟨rfl, hb⟩
          have HD9 := Lib.hid (HD8.out.below hb)
          clear hb HD8
          have hwi : (VW.size : Int) ≤ (L.length : Int) := by omega
          go_wp2_with fail
          refine (HRK.out _).mono ?_; rintro e w10 ⟨rfl, hb⟩
          have HD10 := Lib.hid (HD9.out.below hb)
          clear hb HD9
          have hri : (rk : Int) ≤ (t : Int) := by omega
          go_wp2_with fail
          refine (HCO.out _).mono ?_; rintro e w11 ⟨rfl, hb⟩
          have HD11 := Lib.hid (HD10.out.below hb)
          clear hb HD10
          obtain ⟨c0, c1, c2, _⟩ := HD11.out.a.cells
          obtain ⟨d0, d1, d2, _⟩ := HD11.out.b.cells
          go_wp2_with fail
          refine (HPW.out _ HD11.out.old).mono ?_; rintro e w12 ⟨rfl, hb⟩
          have HD12 := Lib.hid (HZ.out.trans ((HD11.out.old.trans (hb.mono HD11.out.old.size)).mono HZ.out.size))
          clear hb HD11
          go_wp2_with fail
          go_ret
          exact ⟨rfl, HD12.out⟩
end Go.Proofs.YtnhlhjehocngcaaGreatDoor
