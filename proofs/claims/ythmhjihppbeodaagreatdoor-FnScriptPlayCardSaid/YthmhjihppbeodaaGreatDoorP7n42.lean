/- Contracts of the program's functions and what they compute: part 42. Conditions: those that each theorem states. -/
import Derived.Test.YthmhjihppbeodaaGreatDoorP7n2
import Derived.Test.YthmhjihppbeodaaGreatDoorP7n18
import Derived.Test.YthmhjihppbeodaaGreatDoorP7n41
namespace Go.Proofs.YthmhjihppbeodaaGreatDoor
open Go.RowKit
set_option linter.unusedVariables false
set_option maxRecDepth 100000
theorem no_app {s t : ByteArray} {c : UInt8} (h : c ∉ s.data.toList) (h2 : c ∉ t.data.toList) : c ∉ (s ++ t).data.toList := by
  rw [ByteArray.data_append, Array.toList_append, List.mem_append]
  exact fun e => e.elim h h2
theorem dec_no10 (u : Nat) : (10 : UInt8) ∉ (decS u).data.toList := by
  intro h
  have h1 : (decS u).data.toList = Lib.decDigits u := by simp [decS]
  rw [h1] at h
  have := Gs.dig_ne u 10 h
  revert this
  decide
/-- A draw out of a list of texts that all are so. -/
theorem of_prop (w : World) (b K : Nat) (P : ByteArray → Prop) (xs : List ByteArray) (T : TypeId) (h : RdB w b K) (hk : K < 1099511627776) (h0 : 1 ≤ xs.length) (h1 : xs.length ≤ 1000) (hm : ∀ x ∈ xs, P x) :
    Calls Tryz.prog 18 #[.pointer (some ⟨b, 0, none⟩), .slice (some ⟨w.heap.size, 0, none⟩) xs.length xs.length] (w.alloc (.cells (xs.map Value.string).toArray T)) fun e w' => ∃ t : ByteArray, P t ∧ e = .returned (.string t) ∧ RdB w' b (K + 1) ∧ w.grownBy w' (some b) := by
  have H := Lib.hid (h.grown (grown_alloc w (.cells (xs.map Value.string).toArray T)))
  have HB := Lib.hid h.block
  have HX : Hid (∀ j, j < xs.length → (w.alloc (.cells (xs.map Value.string).toArray T)).cell? ⟨w.heap.size, j, none⟩ = some (.string (xs.getD j ByteArray.empty))) := by
    intro j hj
    rw [World.cell?_alloc_new]
    simp [hj]
  have HG := Lib.hid (grown_alloc w (.cells (xs.map Value.string).toArray T))
  have HM : Hid (∀ j, j < xs.length → P (xs.getD j ByteArray.empty)) := fun j hj => hm _ (by simp [hj])
  obtain ⟨W, hW⟩ : ∃ W, w.alloc (.cells (xs.map Value.string).toArray T) = W := ⟨_, rfl⟩
  rw [hW] at H HX HG ⊢
  obtain ⟨B, hB⟩ : ∃ B, w.heap.size = B := ⟨_, rfl⟩
  rw [hB] at HX HB ⊢
  have hne : B ≠ b := by have := HB.out; omega
  have HNE := Lib.hid hne
  have hlI : (xs.length : Int) ≤ 1000 := by omega
  clear hW hB h hm hne
  go_enter Tryz.func18, Tryz.ntmps18
  go_wp2_with fail
  refine (pickB _ b K _ H.out hk (by omega) (by omega)).mono ?_; rintro e w1 ⟨v, rfl, v0, v1, hr, hg⟩
  obtain ⟨j, rfl⟩ := Int.eq_ofNat_of_zero_le v0
  have hj : j < xs.length := by omega
  have hc := hg.cell (HX.out j hj) (by intro h; injection h with h; exact HNE.out h)
  have HP : Hid (∃ t : ByteArray, P t ∧ (Ending.returned (.string (xs.getD j ByteArray.empty))) = .returned (.string t) ∧ RdB w1 b (K + 1) ∧ w.grownBy w1 (some b)) := ⟨_, HM.out j hj, rfl, hr, (HG.out.but _).trans hg⟩
  clear hr hg HX H HM HG
  generalize xs.getD j ByteArray.empty = t at *
  go_wp2
  go_ret
  exact HP.out
theorem results_ss1 {fn : Func} {p q r : Tmp} (h : fn.results = #[.cell p 24, .cell q 24, .tmp r]) {tmps : Array Value} {w : World} {b c : Nat} {n m : Int} {S R T U : ByteArray} {z : Value} (hp : tmps.getD p undef = .pointer (some ⟨b, 0, none⟩)) (hb : SBlk w b n S R) (hq : tmps.getD q undef = .pointer (some ⟨c, 0, none⟩)) (hc : SBlk w c m T U) (hr : tmps.getD r undef = z) :
    (results fn tmps).run Tryz.prog w = .ok (.tuple #[strV n S R, strV m T U, z]) w := by
  have hl := run_loadVar_row (P := Tryz.prog) w b 24 24 #[.int .i64 n, .string S, .string R] (0, 0) _ hb Tryz.underlying24 rfl strInfo
  have hl2 := run_loadVar_row (P := Tryz.prog) w c 24 24 #[.int .i64 m, .string T, .string U] (0, 0) _ hc Tryz.underlying24 rfl strInfo
  have hp' : tmps[p]?.getD undef = .pointer (some ⟨b, 0, none⟩) := by simpa using hp
  have hq' : tmps[q]?.getD undef = .pointer (some ⟨c, 0, none⟩) := by simpa using hq
  have hr' : tmps[r]?.getD undef = z := by simpa using hr
  simp [results, h, hp', hq', hr', asAddr, Sem.run_bind, Result.andThen, hl, hl2, strV]
/-- The reader, the results' boxes, and the drawn structures' boxes. -/
structure Dw (w : World) (b K x : Nat) (n : Int) (S R : ByteArray) (m : Int) (T U : ByteArray) (wr : World) : Prop where
  rd : RdB wr b K
  r1 : SBlk wr w.heap.size 0 ⟨#[]⟩ ⟨#[]⟩
  r2 : SBlk wr (w.heap.size + 1) 0 ⟨#[]⟩ ⟨#[]⟩
  a : SBlk wr x n S R
  c : SBlk wr (x + 1) m T U
  ne : w.heap.size + 1 < b ∧ b < x
  old : Below w.heap.size w wr
section
variable {w wr w' : World} {b K K' x : Nat} {n m : Int} {S R T U : ByteArray}
theorem Dw.pick (h : Dw w b K x n S R m T U wr) (hr : RdB w' b K') (hg : wr.grownBy w' (some b)) : Dw w b K' x n S R m T U w' := by
  have hne := h.ne
  exact ⟨hr, h.r1.grown hg (by omega), h.r2.grown hg (by omega), h.a.grown hg (by omega), h.c.grown hg (by omega), h.ne, h.old.grown hg h.old.size (fun k hk => by injection hk with hk; omega)⟩
theorem Dw.below (h : Dw w b K x n S R m T U wr) (hb : Below wr.heap.size wr w') : Dw w b K x n S R m T U w' := h.pick (rdB_bel h.rd hb) (grown_belowS hb)
theorem Dw.drew (h : Dw w b K x n S R m T U wr) : Dw w b K x n S R m T U wr.drew := h.below (Below.refl _ _).drew
theorem Dw.mono (h : Dw w b K x n S R m T U wr) (hK : K ≤ K') : Dw w b K' x n S R m T U wr := ⟨h.rd.mono hK, h.r1, h.r2, h.a, h.c, h.ne, h.old⟩
theorem Dw.fin (h : Dw w b K x n S R m T U wr) (n1 : Int) (S1 R1 : ByteArray) (m1 : Int) (T1 U1 : ByteArray) :
    SBlk ((((((wr.setCell ⟨w.heap.size, 0, none⟩ (.int .i64 n1)).setCell ⟨w.heap.size, 1, none⟩ (.string S1)).setCell ⟨w.heap.size, 2, none⟩ (.string R1)).setCell ⟨w.heap.size + 1, 0, none⟩ (.int .i64 m1)).setCell ⟨w.heap.size + 1, 1, none⟩ (.string T1)).setCell ⟨w.heap.size + 1, 2, none⟩ (.string U1)) w.heap.size n1 S1 R1 ∧
    SBlk ((((((wr.setCell ⟨w.heap.size, 0, none⟩ (.int .i64 n1)).setCell ⟨w.heap.size, 1, none⟩ (.string S1)).setCell ⟨w.heap.size, 2, none⟩ (.string R1)).setCell ⟨w.heap.size + 1, 0, none⟩ (.int .i64 m1)).setCell ⟨w.heap.size + 1, 1, none⟩ (.string T1)).setCell ⟨w.heap.size + 1, 2, none⟩ (.string U1)) (w.heap.size + 1) m1 T1 U1 ∧
    Below w.heap.size w ((((((wr.setCell ⟨w.heap.size, 0, none⟩ (.int .i64 n1)).setCell ⟨w.heap.size, 1, none⟩ (.string S1)).setCell ⟨w.heap.size, 2, none⟩ (.string R1)).setCell ⟨w.heap.size + 1, 0, none⟩ (.int .i64 m1)).setCell ⟨w.heap.size + 1, 1, none⟩ (.string T1)).setCell ⟨w.heap.size + 1, 2, none⟩ (.string U1)) := by
  refine ⟨((h.r1.set3.far (by simp) _).far (by simp) _).far (by simp) _, (((h.r2.far (by simp) _).far (by simp) _).far (by simp) _).set3, ?_⟩
  exact (((((h.old.setCell (Nat.le_refl _) _).setCell (Nat.le_refl _) _).setCell (Nat.le_refl _) _).setCell (Nat.le_succ _) _).setCell (Nat.le_succ _) _).setCell (Nat.le_succ _) _
end
/-- What the draw of PlayGame leaves. -/
def DrawPG (w : World) (e : Ending) (w' : World) : Prop := ∃ (n : Int) (S R : ByteArray) (m : Nat) (T U s : ByteArray), (-1 ≤ n ∧ n ≤ 9223372036854775807) ∧ S.size ≤ 10 ∧ R.size ≤ 100 ∧ m ≤ 5 ∧ validB m T U = true ∧ s.size ≤ 100 ∧ (10 : UInt8) ∉ s.data.toList ∧
  e = .returned (.tuple #[strV n S R, strV m T U, .string s]) ∧ Below w.heap.size w w'
set_option maxHeartbeats 4000000 in
theorem DrawPlayGame_any (w : World) (a : Option Addr) (len cap : Nat) (zs : List Int) (h : IsRow .u8 w a len cap zs) :
    Calls Tryz.prog 4 #[.slice a len cap] w (DrawPG w) := by
  obtain ⟨W, hW⟩ : ∃ W, (w.alloc (.cells #[.int .i64 0, .string ⟨#[]⟩, .string ⟨#[]⟩] 24)).alloc (.cells #[.int .i64 0, .string ⟨#[]⟩, .string ⟨#[]⟩] 24) = W := ⟨_, rfl⟩
  have HB0 : Hid (Below w.heap.size w W ∧ SBlk W w.heap.size 0 ⟨#[]⟩ ⟨#[]⟩ ∧ SBlk W (w.heap.size + 1) 0 ⟨#[]⟩ ⟨#[]⟩ ∧ W.heap.size = w.heap.size + 2) := by
    subst hW
    have h1 : Below w.heap.size w (w.alloc (.cells #[.int .i64 0, .string ⟨#[]⟩, .string ⟨#[]⟩] 24)) := (Below.refl _ _).alloc (Nat.le_refl _) _
    have h2 := SBlk.new (w.alloc (.cells #[.int .i64 0, .string ⟨#[]⟩, .string ⟨#[]⟩] 24)) 0 ⟨#[]⟩ ⟨#[]⟩
    rw [World.size_alloc] at h2
    refine ⟨h1.alloc h1.size _, (SBlk.new w 0 ⟨#[]⟩ ⟨#[]⟩).below ((Below.refl _ _).alloc (Nat.le_refl _) _) (by simp), h2, by simp⟩
  have H := Lib.hid (h.below HB0.out.1)
  have HW := Lib.hid hW
  clear h hW
  go_enter Tryz.func4, Tryz.ntmps4
  go_upto_region 1 with fail
  rw [HW.out]
  go_wp2_with fail
  refine (l15Open_any _ _ _ _ _ H.out).mono ?_; rintro e w1 ⟨rfl, hr, hb, hs⟩
  have HR1 := Lib.hid hr
  have HB1 : Hid (Below w.heap.size w w1 ∧ SBlk w1 w.heap.size 0 ⟨#[]⟩ ⟨#[]⟩ ∧ SBlk w1 (w.heap.size + 1) 0 ⟨#[]⟩ ⟨#[]⟩ ∧ w.heap.size + 1 < W.heap.size) := by
    have h3 := HB0.out.2.2.2
    exact ⟨HB0.out.1.trans (hb.mono HB0.out.1.size), HB0.out.2.1.below hb (by omega), HB0.out.2.2.1.below hb (by omega), by omega⟩
  clear hr hb hs HB0 HW
  generalize W.heap.size = b at *
  go_wp2_with fail
  refine (l1PairB_any b _ w1 HR1.out (by omega)).mono ?_; rintro e w2 ⟨n, m, S, R, T, U, n5, m5, hv, hu, rfl, hr, hg⟩
  obtain ⟨n1, n8, hS, hR, _, _⟩ := valid_is hv
  obtain ⟨m1, m8, hT, hU, _, _⟩ := valid_is hu
  obtain ⟨W3, hW3⟩ : ∃ W, (w2.alloc (.cells #[.int .i64 (n : Int), .string S, .string R] 24)).alloc (.cells #[.int .i64 (m : Int), .string T, .string U] 24) = W := ⟨_, rfl⟩
  have HD : Hid (Dw w b 300 w2.heap.size (n : Int) S R (m : Int) T U W3) := by
    rw [← hW3]
    have hbb := hr.block
    have hal : Below w2.heap.size w2 (w2.alloc (.cells #[.int .i64 (n : Int), .string S, .string R] 24)) := (Below.refl _ _).alloc (Nat.le_refl _) _
    have hal2 : Below (w2.alloc (.cells #[.int .i64 (n : Int), .string S, .string R] 24)).heap.size (w2.alloc (.cells #[.int .i64 (n : Int), .string S, .string R] 24)) ((w2.alloc (.cells #[.int .i64 (n : Int), .string S, .string R] 24)).alloc (.cells #[.int .i64 (m : Int), .string T, .string U] 24)) := (Below.refl _ _).alloc (Nat.le_refl _) _
    have hnw := SBlk.new (w2.alloc (.cells #[.int .i64 (n : Int), .string S, .string R] 24)) (m : Int) T U
    rw [World.size_alloc] at hnw
    have hlt := HB1.out.2.2.2
    have p1 := HB1.out.2.1.grown hg (by omega)
    have p2 := HB1.out.2.2.1.grown hg (by omega)
    have l1 := p1.cells.2.2.2.2.2.2
    have l2 := p2.cells.2.2.2.2.2.2
    have ho : Below w.heap.size w w2 := HB1.out.1.grown hg HB1.out.1.size (fun k hk => by injection hk with hk; omega)
    exact ⟨(rdB_bel (rdB_bel hr hal) hal2).mono (by omega), (p1.below hal l1).below hal2 (by simp; omega), (p2.below hal l2).below hal2 (by simp; omega), (SBlk.new w2 _ S R).below hal2 (by simp), hnw, ⟨by omega, by omega⟩, (ho.trans (hal.mono ho.size)).trans (hal2.mono (by simp; have := ho.size; omega))⟩
  have HW3 := Lib.hid hW3
  clear hr hg hW3 HB1 HR1 H
  unfold strV
  go_upto_region 3 with fail
  rw [HW3.out]
  generalize w2.heap.size = x6 at *
  clear HW3
  go_wp2_with fail
  refine (pickB _ b _ _ HD.out.rd (by omega) (by omega) (by omega)).mono ?_; rintro e w3 ⟨v, rfl, v0, v1, hr, hg⟩
  have HD3 := Lib.hid (HD.out.pick hr hg)
  clear hr hg HD
  obtain ⟨p, rfl⟩ := Int.eq_ofNat_of_zero_le v0
  have hp3 : p ≤ 3 := by omega
  clear v0 v1
  go_wp2_with fail
  go_loopw [9, 8] (fun q o wr => ∃ (j : Nat) (s : ByteArray), j ≤ 3 ∧ q = .int .i64 (j : Int) ∧ o = .string s ∧ s.size + j * 25 ≤ 75 ∧ Hid ((10 : UInt8) ∉ s.data.toList) ∧ Hid (Dw w b (320 - 2 * j) x6 (n : Int) S R (m : Int) T U wr)) (fun q _ _ => (intOf q).toNat)
  case atStart => exact ⟨p, ⟨#[]⟩, hp3, rfl, rfl, by show 0 + p * 25 ≤ 75; omega, (by decide : (10 : UInt8) ∉ (⟨#[]⟩ : ByteArray).data.toList), HD3.out.mono (by omega)⟩
  case round =>
    clear HD3
    obtain ⟨j, s, hj, rfl, rfl, hs, HS, HD⟩ := hrel
    rcases Nat.eq_zero_or_pos j with h00 | h00
    · subst h00
      go_wp2_with fail
      refine (pickB _ b _ _ HD.out.rd (by omega) (by omega) (by omega)).mono ?_; rintro e w4 ⟨v, rfl, v0, v1, hr, hg⟩
      have HD4 := Lib.hid (HD.out.pick hr hg)
      clear hr hg HD
      have hne := HD4.out.ne
      have hx0 : w.heap.size ≠ x6 := by omega
      have hx1 : w.heap.size + 1 ≠ x6 := by omega
      have hx2 : w.heap.size ≠ x6 + 1 := by omega
      have hx3 : w.heap.size + 1 ≠ x6 + 1 := by omega
      have hs75 : s.size ≤ 75 := by omega
      obtain ⟨c0, c1, c2, f0, f1, f2, hl⟩ := HD4.out.a.cells
      obtain ⟨e0, e1, e2, _, _, _, l9⟩ := HD4.out.c.cells
      obtain ⟨g0, g1, g2, i0, i1, i2, hl1⟩ := HD4.out.r1.cells
      obtain ⟨k0, k1, k2, j0, j1, j2, hl2⟩ := HD4.out.r2.cells
      by_cases hv0 : v = 0
      · subst hv0
        have HN := Lib.hid (fun TT => of_prop w4.drew b _ (fun t => t.size ≤ 3 ∧ (10 : UInt8) ∉ t.data.toList) [⟨#[32]⟩, ⟨#[97, 57]⟩, ⟨#[32, 99, 48]⟩, ⟨#[48]⟩] TT HD4.out.drew.rd (by omega) (by decide) (by decide) (by intro x hx; simp at hx; rcases hx with rfl | rfl | rfl | rfl <;> decide))
        have HZ : Hid (∀ t : ByteArray, t.size ≤ 3 → (s ++ t).size ≤ 100 ∧ ¬ 9223372036854775807 < s.size + t.size) := fun t ht => ⟨by rw [ByteArray.size_append]; omega, by omega⟩
        go_upto_region 14 with fail
        go_region_held3 (fun w' => w'.cell? ⟨x6, 0, none⟩ = some (.int .i64 (n : Int)) ∧ w'.cell? ⟨x6, 1, none⟩ = some (.string S) ∧ w'.cell? ⟨x6, 2, none⟩ = some (.string R) ∧ w'.cell? ⟨x6 + 1, 0, none⟩ = some (.int .i64 (m : Int)) ∧ w'.cell? ⟨x6 + 1, 1, none⟩ = some (.string T) ∧ w'.cell? ⟨x6 + 1, 2, none⟩ = some (.string U))
          (go_keep)
          (first
            | (go_at_call 18; refine (HN.out _).mono ?_; rintro e wq ⟨t, ht, rfl, hr, hg⟩; have HD5 := Lib.hid (HD4.out.drew.pick hr hg); have hz := (HZ.out t ht.1).1; have hz2 := (HZ.out t ht.1).2; clear hr hg hl hl1 hl2 l9 c0 c1 c2 f0 f1 f2 g0 g1 g2 i0 i1 i2 k0 k1 k2 j0 j1 j2 e0 e1 e2; obtain ⟨c0, c1, c2, f0, f1, f2, hl⟩ := HD5.out.a.cells; obtain ⟨e0, e1, e2, _, _, _, l9⟩ := HD5.out.c.cells; obtain ⟨g0, g1, g2, i0, i1, i2, hl1⟩ := HD5.out.r1.cells; obtain ⟨k0, k1, k2, j0, j1, j2, hl2⟩ := HD5.out.r2.cells))
        all_goals
          have HF := Lib.hid (HD5.out.fin (n : Int) S R (m : Int) T U)
          have HNO := no_app HS.out ht.2
          go_wp2_with fail
          refine bodyPost_ret (v := .tuple #[strV n S R, strV m T U, .string (s ++ t)]) ?_ rfl ⟨n, S, R, m, T, U, s ++ t, by omega, by omega, by rw [hR]; have := Nat.mul_le_mul n5 n5; omega, m5, hu, hz, HNO, rfl, HF.out.2.2⟩
          exact results_ss1 rfl rfl HF.out.1 rfl HF.out.2.1 rfl
      · have hv0B : (v == 0) = false := by simpa using hv0
        by_cases hv1 : v = 1
        · subst hv1
          have HBD := Lib.hid (fun W hr => l1Bad_any b 400 n S R n1 n5 hS hR W hr (by omega))
          go_upto_region 16 with fail
          go_region_held3 (fun w' => w'.cell? ⟨x6, 0, none⟩ = some (.int .i64 (n : Int)) ∧ w'.cell? ⟨x6, 1, none⟩ = some (.string S) ∧ w'.cell? ⟨x6, 2, none⟩ = some (.string R) ∧ w'.cell? ⟨x6 + 1, 0, none⟩ = some (.int .i64 (m : Int)) ∧ w'.cell? ⟨x6 + 1, 1, none⟩ = some (.string T) ∧ w'.cell? ⟨x6 + 1, 2, none⟩ = some (.string U))
            (go_keep)
            (first
              | (go_at_call 19; refine (HBD.out _ (HD4.out.drew.rd.mono (by omega))).mono ?_; rintro e wq ⟨n', S', R', q0, q1, z1, z2, rfl, hr, hg⟩; have HD5 := Lib.hid (HD4.out.drew.pick hr hg); clear hr hg hl hl1 hl2 l9 c0 c1 c2 f0 f1 f2 g0 g1 g2 i0 i1 i2 k0 k1 k2 j0 j1 j2 e0 e1 e2; obtain ⟨c0, c1, c2, f0, f1, f2, hl⟩ := HD5.out.a.cells; obtain ⟨e0, e1, e2, _, _, _, l9⟩ := HD5.out.c.cells; obtain ⟨g0, g1, g2, i0, i1, i2, hl1⟩ := HD5.out.r1.cells; obtain ⟨k0, k1, k2, j0, j1, j2, hl2⟩ := HD5.out.r2.cells; unfold strV))
          all_goals
            have HF := Lib.hid (HD5.out.fin n' S' R' (m : Int) T U)
            go_wp2_with fail
            refine bodyPost_ret (v := .tuple #[strV n' S' R', strV m T U, .string s]) ?_ rfl ⟨n', S', R', m, T, U, s, ⟨q0, q1⟩, z1, z2, m5, hu, by omega, HS.out, rfl, HF.out.2.2⟩
            exact results_ss1 rfl rfl HF.out.1 rfl HF.out.2.1 rfl
        · have hv1B : (v == 1) = false := by simpa using hv1
          go_upto_region 17 with fail
          go_region_held3 (fun w' => w'.cell? ⟨x6, 0, none⟩ = some (.int .i64 (n : Int)) ∧ w'.cell? ⟨x6, 1, none⟩ = some (.string S) ∧ w'.cell? ⟨x6, 2, none⟩ = some (.string R) ∧ w'.cell? ⟨x6 + 1, 0, none⟩ = some (.int .i64 (m : Int)) ∧ w'.cell? ⟨x6 + 1, 1, none⟩ = some (.string T) ∧ w'.cell? ⟨x6 + 1, 2, none⟩ = some (.string U))
            (go_keep)
            (fail)
          all_goals
            have HF0 := HD4.out.fin (n : Int) S R (m : Int) T U
            have HF := Lib.hid (And.intro HF0.1.drew (And.intro HF0.2.1.drew HF0.2.2.drew))
            clear HF0
            go_wp2_with fail
            refine bodyPost_ret (v := .tuple #[strV n S R, strV m T U, .string s]) ?_ rfl ⟨n, S, R, m, T, U, s, by omega, by omega, by rw [hR]; have := Nat.mul_le_mul n5 n5; omega, m5, hu, by omega, HS.out, rfl, HF.out.2.2⟩
            exact results_ss1 rfl rfl HF.out.1 rfl HF.out.2.1 rfl
    · obtain ⟨j, rfl⟩ : ∃ i, j = i + 1 := ⟨j - 1, by omega⟩
      have hjI : (0 : Int) < (j : Int) + 1 := by omega
      have hw1 : IntKind.i64.wrap ((j : Int) + 1 - 1) = (j : Int) := by
        rw [show (j : Int) + 1 - 1 = (j : Int) by omega]; exact IntWalk.i64_in _ (by omega)
      by_cases hemp : s.toList.isEmpty = true
      · go_wp2_with fail
        refine (pickB _ b _ _ HD.out.rd (by omega) (by omega) (by omega)).mono ?_; rintro e w4 ⟨v, rfl, v0, v1, hr, hg⟩
        have HD4 := Lib.hid (HD.out.pick hr hg)
        clear hr hg HD
        have c0 := HD4.out.a.cells.1
        have e0 := HD4.out.c.cells.1
        by_cases hv0 : v = 0
        · subst hv0
          go_wp2_with fail
          refine (pickB _ b _ _ HD4.out.rd (by omega) (by omega) (by omega)).mono ?_; rintro e w5 ⟨k, rfl, k0', k1', hr, hg⟩
          have HD5 := Lib.hid (HD4.out.pick hr hg)
          clear hr hg HD4 c0 e0
          obtain ⟨u, rfl⟩ := Int.eq_ofNat_of_zero_le k0'
          have hu : u ≤ 5 := by omega
          have hdz := decS_size u (by omega)
          have HDM := Lib.hid (fun W => dec_any u W (by omega))
          have HNO : Hid ((10 : UInt8) ∉ (s ++ ⟨#[97]⟩ ++ decS u).data.toList) := no_app (no_app HS.out (by decide)) (dec_no10 u)
          generalize decS u = D at *
          have hz2 : (s ++ ⟨#[97]⟩ : ByteArray).size ≤ s.size + 1 := by rw [ByteArray.size_append]; exact Nat.le_refl _
          have hz3 : (s ++ ⟨#[97]⟩ ++ D : ByteArray).size ≤ s.size + 21 := by rw [ByteArray.size_append]; omega
          go_wp2_with fail
          refine (HDM.out _).mono ?_; rintro e w6 ⟨rfl, hb6⟩
          have HD6 := Lib.hid (HD5.out.below hb6)
          clear hb6
          go_wp2_with fail
          go_roundw
          case rel => exact ⟨j, _, by omega, by go_num, rfl, by omega, HNO.out, HD6.out.mono (by omega)⟩
          case measure => simp [intOf]
        · have hv0B : (v == 0) = false := by simpa using hv0
          go_wp2_with fail
          refine (pickB _ b _ _ HD4.out.rd (by omega) (by omega) (by omega)).mono ?_; rintro e w5 ⟨k, rfl, k0', k1', hr, hg⟩
          have HD5 := Lib.hid (HD4.out.pick hr hg)
          clear hr hg HD4 c0 e0
          obtain ⟨u, rfl⟩ := Int.eq_ofNat_of_zero_le k0'
          have hu : u ≤ 5 := by omega
          have hdz := decS_size u (by omega)
          have HDM := Lib.hid (fun W => dec_any u W (by omega))
          have HNO : Hid ((10 : UInt8) ∉ (s ++ ⟨#[98]⟩ ++ decS u).data.toList) := no_app (no_app HS.out (by decide)) (dec_no10 u)
          generalize decS u = D at *
          have hz2 : (s ++ ⟨#[98]⟩ : ByteArray).size ≤ s.size + 1 := by rw [ByteArray.size_append]; exact Nat.le_refl _
          have hz3 : (s ++ ⟨#[98]⟩ ++ D : ByteArray).size ≤ s.size + 21 := by rw [ByteArray.size_append]; omega
          go_wp2_with fail
          refine (HDM.out _).mono ?_; rintro e w6 ⟨rfl, hb6⟩
          have HD6 := Lib.hid (HD5.out.below hb6)
          clear hb6
          go_wp2_with fail
          go_roundw
          case rel => exact ⟨j, _, by omega, by go_num, rfl, by omega, HNO.out, HD6.out.mono (by omega)⟩
          case measure => simp [intOf]
      · have hemp2 : s.toList.isEmpty = false := by simpa using hemp
        have HS2 : Hid ((10 : UInt8) ∉ (s ++ ⟨#[32]⟩).data.toList) := no_app HS.out (by decide)
        have hz1 : (s ++ ⟨#[32]⟩ : ByteArray).size = s.size + 1 := by rw [ByteArray.size_append]; rfl
        clear hemp
        go_upto_region 9 with fail
        obtain ⟨s2, hs2⟩ : ∃ x, (s ++ ⟨#[32]⟩ : ByteArray) = x := ⟨_, rfl⟩
        rw [hs2] at HS2 hz1
        rw [hs2]
        clear hs2
        go_wp2_with fail
        refine (pickB _ b _ _ HD.out.rd (by omega) (by omega) (by omega)).mono ?_; rintro e w4 ⟨v, rfl, v0, v1, hr, hg⟩
        have HD4 := Lib.hid (HD.out.pick hr hg)
        clear hr hg HD
        have c0 := HD4.out.a.cells.1
        have e0 := HD4.out.c.cells.1
        by_cases hv0 : v = 0
        · subst hv0
          go_wp2_with fail
          refine (pickB _ b _ _ HD4.out.rd (by omega) (by omega) (by omega)).mono ?_; rintro e w5 ⟨k, rfl, k0', k1', hr, hg⟩
          have HD5 := Lib.hid (HD4.out.pick hr hg)
          clear hr hg HD4 c0 e0
          obtain ⟨u, rfl⟩ := Int.eq_ofNat_of_zero_le k0'
          have hu : u ≤ 5 := by omega
          have hdz := decS_size u (by omega)
          have HDM := Lib.hid (fun W => dec_any u W (by omega))
          have HNO : Hid ((10 : UInt8) ∉ (s2 ++ ⟨#[97]⟩ ++ decS u).data.toList) := no_app (no_app HS2.out (by decide)) (dec_no10 u)
          generalize decS u = D at *
          have hz2 : (s2 ++ ⟨#[97]⟩ : ByteArray).size ≤ s2.size + 1 := by rw [ByteArray.size_append]; exact Nat.le_refl _
          have hz3 : (s2 ++ ⟨#[97]⟩ ++ D : ByteArray).size ≤ s2.size + 21 := by rw [ByteArray.size_append]; omega
          go_wp2_with fail
          refine (HDM.out _).mono ?_; rintro e w6 ⟨rfl, hb6⟩
          have HD6 := Lib.hid (HD5.out.below hb6)
          clear hb6
          go_wp2_with fail
          go_roundw
          case rel => exact ⟨j, _, by omega, by go_num, rfl, by omega, HNO.out, HD6.out.mono (by omega)⟩
          case measure => simp [intOf]
        · have hv0B : (v == 0) = false := by simpa using hv0
          go_wp2_with fail
          refine (pickB _ b _ _ HD4.out.rd (by omega) (by omega) (by omega)).mono ?_; rintro e w5 ⟨k, rfl, k0', k1', hr, hg⟩
          have HD5 := Lib.hid (HD4.out.pick hr hg)
          clear hr hg HD4 c0 e0
          obtain ⟨u, rfl⟩ := Int.eq_ofNat_of_zero_le k0'
          have hu : u ≤ 5 := by omega
          have hdz := decS_size u (by omega)
          have HDM := Lib.hid (fun W => dec_any u W (by omega))
          have HNO : Hid ((10 : UInt8) ∉ (s2 ++ ⟨#[98]⟩ ++ decS u).data.toList) := no_app (no_app HS2.out (by decide)) (dec_no10 u)
          generalize decS u = D at *
          have hz2 : (s2 ++ ⟨#[98]⟩ : ByteArray).size ≤ s2.size + 1 := by rw [ByteArray.size_append]; exact Nat.le_refl _
          have hz3 : (s2 ++ ⟨#[98]⟩ ++ D : ByteArray).size ≤ s2.size + 21 := by rw [ByteArray.size_append]; omega
          go_wp2_with fail
          refine (HDM.out _).mono ?_; rintro e w6 ⟨rfl, hb6⟩
          have HD6 := Lib.hid (HD5.out.below hb6)
          clear hb6
          go_wp2_with fail
          go_roundw
          case rel => exact ⟨j, _, by omega, by go_num, rfl, by omega, HNO.out, HD6.out.mono (by omega)⟩
          case measure => simp [intOf]
end Go.Proofs.YthmhjihppbeodaaGreatDoor
