/- The laws' marks: markText, eqStringS, markStringS, heldStringS. Conditions: the lists lie in memory and are not long. -/
import Derived.Test.YtadgiknnejjplaaTexts
import Derived.Test.YtadgiknnejjplaaDec
import Derived.Test.YtadgiknnejjplaaSince
namespace Go.Proofs.Ytadgiknnejjplaa
open Go.RowKit
set_option linter.unusedVariables false

/-- The mark of a number. -/
def markS (k : Nat) : ByteArray := ⟨#[109]⟩ ++ decS k
/-- The numeral, nothing for 0. -/
def decE (t : Nat) : ByteArray := if t = 0 then ByteArray.empty else decS t
theorem decE_step (t : Nat) (h : 0 < t) : decE t = decE (t / 10) ++ digS (t % 10) := by
  unfold decE
  rw [if_neg (by omega)]
  by_cases h10 : t < 10
  · rw [if_pos (by omega), decS_small t h10, Nat.mod_eq_of_lt h10]
    apply ByteArray.ext
    simp
  · rw [if_neg (by omega), decS_big t h10]

set_option maxRecDepth 100000 in
theorem markText_any (k : Nat) (w : World) (hk : 1 ≤ k) (hk2 : k ≤ 1000000) :
    Calls Try.prog 22 #[.int .i64 (k : Int)] w fun e w' => e = .returned (.string (markS k)) ∧ Below w.heap.size w w' := by
  have HR : Hid (⟨#[109]⟩ ++ decE k = markS k) := by
    show _ = _
    unfold decE markS
    rw [if_neg (by omega)]
  have hz : (decE k).size ≤ 20 := by
    unfold decE
    rw [if_neg (by omega)]
    exact decS_size k (by omega)
  have HZ := Lib.hid hz
  obtain ⟨R, hres⟩ : ∃ r, markS k = r := ⟨_, rfl⟩
  rw [hres] at HR ⊢
  clear hz hres
  have hkI : (0 : Int) < (k : Int) := by omega
  have hkI2 : (k : Int) ≤ 1000000 := by omega
  have HK2 := Lib.hid hk2
  clear hk2
  go_enter Try.func22, Try.ntmps22
  go_wp2_with fail
  go_loopw [0, 3] (fun a o wr => ∃ (t : Nat) (out : ByteArray), a = .int .i64 t ∧ o = .string out ∧ (t : Int) ≤ 1000000 ∧ out.size ≤ 20 ∧ Hid (decE t ++ out = decE k) ∧ Hid (Below w.heap.size w wr)) (fun a _ _ => (intOf a).toNat)
  case atStart => exact ⟨k, ByteArray.empty, rfl, rfl, hkI2, by simp, by show decE k ++ ByteArray.empty = decE k; apply ByteArray.ext; simp, Below.refl _ _⟩
  case round =>
    obtain ⟨t, out, rfl, rfl, ht, ho, HT, HB⟩ := hrel
    by_cases hlt : (0 : Int) < t
    · have HD := Lib.hid (decE_step t (by omega))
      have hc := dig_conv (t % 10) (by omega) (48 + (t : Int) % 10) (by omega) wr
      have hdz : (digS (t % 10)).size = 1 := rfl
      have HB1 : Hid (Below w.heap.size w (wr.alloc (.cells #[.int .u8 (48 + (t : Int) % 10)] 5))) := HB.out.alloc HB.out.size _
      have hoz : out.size ≤ 19 := by
        have h1 := congrArg ByteArray.size HT.out
        have h2 := HZ.out
        rw [HD.out, ByteArray.size_append, ByteArray.size_append, hdz] at h1
        omega
      have HT1 : Hid (decE (t / 10) ++ (digS (t % 10) ++ out) = decE k) := by
        show _ = _
        rw [← HT.out, HD.out]
        apply ByteArray.ext
        simp [ByteArray.data_append, Array.append_assoc]
      generalize digS (t % 10) = D at *
      go_wp2_with fail
      go_roundw
      case rel => exact ⟨t / 10, D ++ out, by go_num, rfl, by omega, by rw [ByteArray.size_append]; omega, HT1.out, HB1.out⟩
      case measure => simp [intOf]; omega
    · have HE : Hid (⟨#[109]⟩ ++ out = R) := by
        have h := HT.out
        rw [show t = 0 by omega] at h
        show _ = _
        rw [← HR.out, ← h]
        congr 1
      clear HT
      go_wp2_with fail
      go_ret
      exact ⟨congrArg (fun s => Ending.returned (.string s)) HE.out, HB.out⟩

set_option maxRecDepth 100000 in
theorem eqStringS_same (v1 v2 : Value) (L : List ByteArray) (w : World) (h1 : TextsAt w v1 L) (h2 : TextsAt w v2 L) (hl : L.length ≤ 1000000) :
    Calls Try.prog 7 #[v1, v2] w fun e w' => e = .returned (.bool true) ∧ Below w.heap.size w w' := by
  obtain ⟨a1, c1, rfl, p1, p2, hc1⟩ := h1.view
  obtain ⟨a2, c2, rfl, p3, p4, hc2⟩ := h2.view
  unfold maxLen at p2 p4
  have H1 := Lib.hid hc1; have H2 := Lib.hid hc2
  have hlI : (L.length : Int) ≤ 1000000 := by omega
  have HL := Lib.hid hl
  clear h1 h2 hc1 hc2 hl
  go_enter Try.func7, Try.ntmps7
  go_wp2_with fail
  go_loopw [5] (fun i wr => ∃ k : Nat, k ≤ L.length ∧ i = .int .i64 k ∧ Hid (Below w.heap.size w wr)) (fun i _ => L.length - (intOf i).toNat)
  case atStart => exact ⟨0, by omega, rfl, Below.refl _ _⟩
  case round =>
    obtain ⟨k, hk, rfl, HB⟩ := hrel
    by_cases hlt : k < L.length
    · obtain ⟨g1, o1, rfl, hg1, e1⟩ := H1.out (by omega)
      obtain ⟨g2, o2, rfl, hg2, e2⟩ := H2.out (by omega)
      have d1 := (HB.out.cell (p := ⟨g1, o1 + k, none⟩) hg1).trans (e1 k hlt)
      have d2 := (HB.out.cell (p := ⟨g2, o2 + k, none⟩) hg2).trans (e2 k hlt)
      have hkI : (0 : Int) ≤ (k : Int) := by omega
      have hkI2 : (k : Int) < (L.length : Int) := by omega
      clear e1 e2
      generalize L.getD k ByteArray.empty = x at *
      go_wp2_with fail
      have f1 := fun s => Since.cell d1 s
      have f2 := fun s => Since.cell d2 s
      refine wp_region_since (by kernel_rfl) (by kernel_rfl) ?_
      repeat (go_big_quiet_step (fail))
      refine wpQuiet_nil ?_
      intro w1 hb1
      have HB1 := Lib.hid (HB.out.trans (hb1.mono HB.out.size))
      clear f1 f2 hb1
      go_wp2_with fail
      go_roundw
      case rel => exact ⟨k + 1, by omega, by go_num, HB1.out⟩
      case measure => simp [intOf]; omega
    · go_wp2_with fail
      go_ret
      exact ⟨rfl, HB.out⟩

set_option maxRecDepth 100000 in
theorem heldStringS_any (v : Value) (M : List ByteArray) (k : Nat) (w : World) (h : TextsAt w v M) (hM : ∀ j, j < M.length → M.getD j ByteArray.empty = markS (k + j)) (hk : 1 ≤ k) (hl : k + M.length ≤ 1000000) :
    Calls Try.prog 9 #[v, .int .i64 (k : Int)] w fun e w' => e = .returned (.int .i64 ((k + M.length : Nat) : Int)) ∧ Below w.heap.size w w' := by
  obtain ⟨a, c, rfl, p1, p2, hc⟩ := h.view
  unfold maxLen at p2
  have HC := Lib.hid hc
  have HM := Lib.hid hM
  have hlI : (k : Int) + (M.length : Int) ≤ 1000000 := by omega
  have HL := Lib.hid hl
  have hk0 : (1 : Int) ≤ (k : Int) := by omega
  clear h hc hM hl
  go_enter Try.func9, Try.ntmps9
  go_wp2_with fail
  go_loopw [5, 1] (fun i q wr => ∃ j : Nat, j ≤ M.length ∧ i = .int .i64 j ∧ q = .int .i64 ((k + j : Nat) : Int) ∧ Hid (Below w.heap.size w wr)) (fun i _ _ => M.length - (intOf i).toNat)
  case atStart => exact ⟨0, by omega, rfl, rfl, Below.refl _ _⟩
  case round =>
    obtain ⟨j, hj, rfl, rfl, HB⟩ := hrel
    by_cases hlt : j < M.length
    · obtain ⟨g, o, rfl, hg, e1⟩ := HC.out (by omega)
      have d1 := (HB.out.cell (p := ⟨g, o + j, none⟩) hg).trans (e1 j hlt)
      rw [HM.out j hlt] at d1
      have HMK := Lib.hid (fun w => markText_any (k + j) w (by omega) (by have := HL.out; omega))
      have hjI : (0 : Int) ≤ (j : Int) := by omega
      have hjI2 : (j : Int) < (M.length : Int) := by omega
      obtain ⟨q, hq⟩ : ∃ q : Nat, k + j = q := ⟨_, rfl⟩
      have HQ := Lib.hid hq
      rw [hq] at d1 HMK ⊢
      have hqI : (q : Int) ≤ 1000000 := by omega
      clear e1 hq
      generalize markS q = x at *
      go_wp2_with fail
      have f1 := fun s => Since.cell d1 s
      refine wp_region_since (by kernel_rfl) (by kernel_rfl) ?_
      repeat (go_big_quiet_step ((with_reducible exact Since.call (HMK.out _))))
      refine wpQuiet_nil ?_
      intro w1 hb1
      have HB1 := Lib.hid (HB.out.trans (hb1.mono HB.out.size))
      clear f1 hb1
      go_wp2_with fail
      go_roundw
      case rel => exact ⟨j + 1, by omega, by go_num, by rw [← Nat.add_assoc, HQ.out]; go_num, HB1.out⟩
      case measure => simp [intOf]; omega
    · have HJ := Lib.hid (show j = M.length by omega)
      go_wp2_with fail
      go_ret
      exact ⟨by rw [HJ.out]; rfl, HB.out⟩

theorem OwnS.set {B g cap : Nat} {w : World} {L : List ByteArray} (h : OwnS B w (.slice (some ⟨g, 0, none⟩) L.length cap) L) (k : Nat) (x : ByteArray) :
    OwnS B (w.setCell ⟨g, k, none⟩ (.string x)) (.slice (some ⟨g, 0, none⟩) L.length cap) (L.set k x) := by
  have h1 := (h.own.stored k (.string x)).1
  refine ⟨?_, h.ne, by simpa [World.setCell] using h.low⟩
  rw [List.length_set, List.map_set]
  exact h1
theorem OwnS.frozen {B g cap : Nat} {w : World} {L : List ByteArray} (h : OwnS B w (.slice (some ⟨g, 0, none⟩) L.length cap) L) (k : Nat) : w.frozen? ⟨g, k, none⟩ = false := h.own.frozenAt k

/-- The slice is the call's own, of n texts; the first j are the marks from k on. -/
def MarkInv (w : World) (B g n cap k j : Nat) (wr : World) : Prop :=
  B ≤ g ∧ Below B w wr ∧ ∃ M : List ByteArray, M.length = n ∧ OwnS B wr (.slice (some ⟨g, 0, none⟩) n cap) M ∧ ∀ i, i < j → M.getD i ByteArray.empty = markS (k + i)
theorem MarkInv.below {w wr w2 : World} {B g n cap k j : Nat} (h : MarkInv w B g n cap k j wr) (hb : Below wr.heap.size wr w2) : MarkInv w B g n cap k j w2 := by
  obtain ⟨h1, h2, M, h3, h4, h5⟩ := h
  exact ⟨h1, h2.trans (hb.mono (Nat.le_trans h4.low (Nat.le_refl _))), M, h3, h4.below hb, h5⟩
theorem MarkInv.cell {w wr : World} {B g n cap k j : Nat} (h : MarkInv w B g n cap k j wr) (hj : j < n) :
    ∃ u, wr.cell? ⟨g, j, none⟩ = some u ∧ wr.frozen? ⟨g, j, none⟩ = false := by
  obtain ⟨h1, h2, M, rfl, h4, h5⟩ := h
  have e := h4.own.cellAt j (by omega)
  rw [List.getElem?_map, List.getElem?_eq_getElem hj] at e
  exact ⟨_, e, h4.frozen j⟩
theorem MarkInv.store {w wr : World} {B g n cap k j : Nat} (h : MarkInv w B g n cap k j wr) (hj : j < n) :
    MarkInv w B g n cap k (j + 1) (wr.setCell ⟨g, j, none⟩ (.string (markS (k + j)))) := by
  obtain ⟨h1, h2, M, rfl, h4, h5⟩ := h
  refine ⟨h1, h2.setCell h1 _, M.set j (markS (k + j)), by simp, h4.set j _, fun i hi => ?_⟩
  rw [List.getD_eq_getElem?_getD, List.getElem?_set]
  by_cases e : j = i
  · subst e; rw [if_pos rfl, if_pos hj]; rfl
  · rw [if_neg e, ← List.getD_eq_getElem?_getD]; exact h5 i (by omega)

set_option maxRecDepth 100000 in
theorem markStringS_any (v : Value) (L : List ByteArray) (k B : Nat) (w : World) (h : OwnS B w v L) (hk : 1 ≤ k) (hl : k + L.length ≤ 1000000) :
    Calls Try.prog 8 #[v, .int .i64 (k : Int)] w fun e w' => e = .returned (.int .i64 ((k + L.length : Nat) : Int)) ∧ Below B w w' ∧ ∃ M : List ByteArray, M.length = L.length ∧ OwnS B w' v M ∧ ∀ i, i < L.length → M.getD i ByteArray.empty = markS (k + i) := by
  obtain ⟨g, c, rfl, hg, p0, p1, p2, hc⟩ := h.cells
  unfold maxLen at p2
  have HM0 : Hid (MarkInv w B g L.length c k 0 w) := ⟨hg, Below.refl _ _, L, rfl, h, fun i hi => by omega⟩
  have hk0 : (1 : Int) ≤ (k : Int) := by omega
  clear h hc p0
  obtain ⟨n, hn⟩ : ∃ n, L.length = n := ⟨_, rfl⟩
  rw [hn] at hl p1 HM0 ⊢
  clear hn
  have hnI : (n : Int) ≤ 1000000 := by omega
  have HL := Lib.hid hl
  clear hl
  go_enter Try.func8, Try.ntmps8
  go_wp2_with fail
  go_loopw [5, 1] (fun i q wr => ∃ j : Nat, j ≤ n ∧ i = .int .i64 j ∧ q = .int .i64 ((k + j : Nat) : Int) ∧ Hid (MarkInv w B g n c k j wr)) (fun i _ _ => n - (intOf i).toNat)
  case atStart => exact ⟨0, by omega, rfl, rfl, HM0.out⟩
  case round =>
    obtain ⟨j, hj, rfl, rfl, HI⟩ := hrel
    by_cases hlt : j < n
    · have HMK := Lib.hid (fun w => markText_any (k + j) w (by omega) (by have := HL.out; omega))
      have HST := Lib.hid (fun (w2 : World) (h2 : MarkInv w B g n c k j w2) => h2.store hlt)
      have HC := Lib.hid (fun (w2 : World) (h2 : MarkInv w B g n c k j w2) => h2.cell hlt)
      have hjI : (0 : Int) ≤ (j : Int) := by omega
      have hjI2 : (j : Int) < (n : Int) := by omega
      obtain ⟨q, hq⟩ : ∃ q : Nat, k + j = q := ⟨_, rfl⟩
      have HQ := Lib.hid hq
      rw [hq] at HMK HST ⊢
      have hqI : (q : Int) ≤ 1000000 := by have := HL.out; omega
      clear hq
      generalize markS q = x at *
      go_wp2_with (first | ((with_reducible refine (HMK.out _).mono ?_); rintro e w2 ⟨rfl, hb⟩; have HI2 := Lib.hid (HI.out.below (by first | exact hb | exact (Below.refl _ _).drew.trans (hb.mono (Nat.le_refl _)))); obtain ⟨u, hu1, hu2⟩ := HC.out _ HI2.out; clear hb) | fail)
      go_roundw
      case rel => exact ⟨j + 1, by omega, by go_num, by rw [← Nat.add_assoc, HQ.out]; go_num, HST.out _ HI2.out⟩
      case measure => simp [intOf]; omega
    · have HJ := Lib.hid (show j = n by omega)
      go_wp2_with fail
      go_ret
      obtain ⟨h1, h2, M, h3, h4, h5⟩ := HI.out
      refine ⟨by rw [HJ.out]; rfl, h2, M, h3, h4, ?_⟩
      rw [HJ.out] at h5
      exact h5
end Go.Proofs.Ytadgiknnejjplaa
/- WordClasses of the program and of the reference, and the walk of the law FnExactWordClasses. Conditions: none. -/
namespace Go.Proofs.Ytadgiknnejjplaa
open Go.RowKit
set_option linter.unusedVariables false

/-- A slice of texts that is nil, or the call's own. -/
def OwnT (B : Nat) (w : World) (v : Value) (L : List ByteArray) : Prop := (v = .slice none 0 0 ∧ L = []) ∨ OwnS B w v L
theorem OwnT.texts {B : Nat} {w : World} {v : Value} {L : List ByteArray} (h : OwnT B w v L) : TextsAt w v L := by
  rcases h with ⟨rfl, rfl⟩ | h
  · exact TextsAt.nil w
  · exact h.texts
theorem OwnT.below {B : Nat} {w w' : World} {v : Value} {L : List ByteArray} (h : OwnT B w v L) (hb : Below w.heap.size w w') : OwnT B w' v L := by
  rcases h with h | h
  · exact .inl h
  · exact .inr (h.below hb)
/-- What a function leaves that returns a list of texts of its own, or nil. -/
def NewT (w : World) (L : List ByteArray) (e : Ending) (w' : World) : Prop := ∃ v, e = .returned v ∧ OwnT w.heap.size w' v L ∧ Below w.heap.size w w'

theorem markT_any (v : Value) (L : List ByteArray) (k B : Nat) (w : World) (h : OwnT B w v L) (hk : 1 ≤ k) (hl : k + L.length ≤ 1000000) (hB : B ≤ w.heap.size) :
    Calls Try.prog 8 #[v, .int .i64 (k : Int)] w fun e w' => e = .returned (.int .i64 ((k + L.length : Nat) : Int)) ∧ Below B w w' ∧ ∃ M : List ByteArray, M.length = L.length ∧ OwnT B w' v M ∧ ∀ i, i < L.length → M.getD i ByteArray.empty = markS (k + i) := by
  rcases h with ⟨rfl, rfl⟩ | h
  · have hkI : (k : Int) ≤ 1000000 := by simp at hl; omega
    go_enter Try.func8, Try.ntmps8
    go_wp2_with fail
    go_loop [5, 1] (fun i q => i = .int .i64 0 ∧ q = .int .i64 (k : Int)) (fun _ _ => 0)
    case atStart => exact ⟨rfl, rfl⟩
    case round =>
      obtain ⟨rfl, rfl⟩ := hrel
      go_wp2_with fail
      go_ret
      exact ⟨rfl, Below.refl _ _, .inl ⟨rfl, rfl⟩⟩
  · refine (markStringS_any v L k B w h hk hl).mono ?_
    rintro e w' ⟨h1, h2, M, h3, h4, h5⟩
    exact ⟨h1, h2, M, h3, .inr h4, h5⟩

end Go.Proofs.Ytadgiknnejjplaa
