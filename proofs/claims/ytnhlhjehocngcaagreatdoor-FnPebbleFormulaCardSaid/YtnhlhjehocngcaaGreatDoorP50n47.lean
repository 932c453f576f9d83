/- Contracts of the program's functions and what they compute: part 47. Conditions: those that each theorem states. -/
import Derived.Test.YtnhlhjehocngcaaGreatDoorP50n14
import Derived.Test.YtnhlhjehocngcaaGreatDoorP50n46
namespace Go.Proofs.YtnhlhjehocngcaaGreatDoor
open Go.RowKit
set_option linter.unusedVariables false
set_option maxRecDepth 100000
/-- One number is appended to a slice of the call's own: the new slice lies where the old one did or further on. -/
theorem wpList_ownI2 {ops : Array Oper} {rest : List Oper} {o : Oper} {a : Act} {Q : Exit → Act → World → Prop} {B : Nat} {w : World} {v : Value} {L : List Int}
    (hown : OwnI B w v L) (hL : L.length ≤ 2000000) (hgd : o.guard = none) (s x : Operand)
    (ho : o.op = .call { callee := .builtin .append, args := #[s, x], argTypes := #[25, 25] }) (y : Int) (b : Nat) (hb : w.heap.size = b)
    (hs : a.eval s = v) (hx : a.eval x = .slice (some ⟨b, 0, none⟩) 1 1)
    (h : ∀ v' w', OwnI B w' v' (L ++ [y]) → w.grownBy w' v.ownBlock → (v'.ownBlock = v.ownBlock ∨ ∃ g, v'.ownBlock = some g ∧ w.heap.size ≤ g) → wpList Tryz.prog ops Q rest (a.put o.dst v') w') :
    wpList Tryz.prog ops Q (o :: rest) a (w.alloc (.cells #[.int .i64 y] 3)) := by
  subst hb
  obtain ⟨i, hi, hz, h1, h2⟩ := info_parts natInfo3
  have hbase : B ≤ w.heap.size := hown.low
  have hown' : (w.alloc (.cells #[.int .i64 y] 3)).ownsRow B 3 1 v L.length (L.map (Value.int .i64)) := (hown.below ((Below.refl _ _).alloc (Nat.le_refl _) _)).own
  refine wpList_append_lies _ hgd s x 25 ho B 3 i (.int .i64 0) 1 8 Tryz.underlying25 hi hz h1 h2 rfl (by decide) v L.length _ hs hown' ⟨w.heap.size, 0, none⟩ 1 1 [.int .i64 y] hx rfl ?_ ?_ (by decide) ?_ ?_ ?_ _ rfl ?_
  · intro j u hj
    match j, hj with
    | 0, hj => simp at hj; subst hj; simp [Addr.add]
  · intro u hu
    simp at hu; subst hu; rfl
  · unfold maxLen; omega
  · omega
  · simp; omega
  · intro g cap w' h2 h3 h4 h5
    have hsz := h3.size
    simp at hsz
    refine h (.slice (some ⟨g, 0, none⟩) (L.length + 1) cap) w' ⟨?_, by simp, by omega⟩ ⟨h3.os, h3.tape, h3.output, by omega, fun k hk hne => ?_⟩ ?_
    · simpa using h2
    · rw [h3.block k (by simp; omega) hne]
      exact Below.heap_alloc _ _ _ hk
    · rcases h4 with h | h
      · exact .inl h.symm
      · exact .inr ⟨g, rfl, by simp at h; omega⟩
/-- The second structure is stored anew. -/
theorem Qr.sb {w wr : World} {b K x : Nat} {n m n1 n2 : Int} {S R T U S1 R1 S2 R2 : ByteArray} (h : Qr w b K x n S R m T U n1 S1 R1 n2 S2 R2 wr) (k : Int) (V X : ByteArray) : Qr w b K x n S R k V X n1 S1 R1 n2 S2 R2 (((wr.setCell ⟨x + 1, 0, none⟩ (.int .i64 k)).setCell ⟨x + 1, 1, none⟩ (.string V)).setCell ⟨x + 1, 2, none⟩ (.string X)) := by
  have hne := h.p.ne
  have hl : b < x + 1 := by omega
  have hle : w.heap.size ≤ x + 1 := by omega
  exact ⟨⟨rdB_set (rdB_set (rdB_set h.p.rd hl) hl) hl, ((h.p.r1.far (by simp; omega) _).far (by simp; omega) _).far (by simp; omega) _, ((h.p.r2.far (by simp; omega) _).far (by simp; omega) _).far (by simp; omega) _, ((h.p.a.far (by simp) _).far (by simp) _).far (by simp) _, hne, grown_setS (grown_setS (grown_setS h.p.old hle) hle) hle⟩, h.c.set3⟩
/-- The draw with both lists, apart from each other. -/
structure Qp (w : World) (b K x : Nat) (n : Int) (S R : ByteArray) (m : Int) (T U : ByteArray) (v u : Value) (L M : List Int) (wr : World) : Prop where
  q : Qr w b K x n S R m T U 0 ⟨#[]⟩ ⟨#[]⟩ 0 ⟨#[]⟩ ⟨#[]⟩ wr
  a : OwnI (x + 2) wr v L
  b : OwnI (x + 2) wr u M
  ne : v.ownBlock ≠ u.ownBlock
section
variable {w wr w' : World} {b K K' x : Nat} {n m k : Int} {S R T U V X : ByteArray} {v u v' u' : Value} {L M L' M' : List Int}
theorem Qp.pick (h : Qp w b K x n S R m T U v u L M wr) (hr : RdB w' b K') (hg : wr.grownBy w' (some b)) : Qp w b K' x n S R m T U v u L M w' :=
  ⟨h.q.pick hr hg, h.a.grown hg (by have := h.q.p.ne; omega), h.b.grown hg (by have := h.q.p.ne; omega), h.ne⟩
theorem Qp.below (h : Qp w b K x n S R m T U v u L M wr) (hb : Below wr.heap.size wr w') : Qp w b K x n S R m T U v u L M w' := h.pick (h.q.p.rd.grown (grown_belowS hb)) (grown_belowS hb)
theorem Qp.drew (h : Qp w b K x n S R m T U v u L M wr) : Qp w b K x n S R m T U v u L M wr.drew := h.below (Below.refl _ _).drew
theorem Qp.mono (h : Qp w b K x n S R m T U v u L M wr) (hK : K ≤ K') : Qp w b K' x n S R m T U v u L M wr := ⟨h.q.mono hK, h.a, h.b, h.ne⟩
/-- A number behind the first list. -/
theorem Qp.pushA (h : Qp w b K x n S R m T U v u L M wr) (ho : OwnI (x + 2) w' v' L') (hg : wr.grownBy w' v.ownBlock) (hn : v'.ownBlock = v.ownBlock ∨ ∃ g, v'.ownBlock = some g ∧ wr.heap.size ≤ g) : Qp w b K x n S R m T U v' u L' M w' := by
  obtain ⟨g, hv, h1, h2⟩ := h.a.block
  obtain ⟨j, hj, h3, h4⟩ := h.b.block
  have hne := h.ne
  refine ⟨h.q.far (B := x + 2) (Nat.le_refl _) ((Below.refl _ _).grown hg (by have := h.a.low; omega) (fun k hk => by rw [hv] at hk; injection hk with hk; omega)), ho, h.b.kept (fun k hk hl => hg.block k hl (fun e => hne (by rw [← e, hk]))) hg.size, ?_⟩
  rcases hn with e | ⟨g2, e, h5⟩
  · rw [e]; exact hne
  · rw [e, hj]; intro e2; injection e2 with e2; omega
/-- A number behind the second list. -/
theorem Qp.pushB (h : Qp w b K x n S R m T U v u L M wr) (ho : OwnI (x + 2) w' u' M') (hg : wr.grownBy w' u.ownBlock) (hn : u'.ownBlock = u.ownBlock ∨ ∃ g, u'.ownBlock = some g ∧ wr.heap.size ≤ g) : Qp w b K x n S R m T U v u' L M' w' := by
  obtain ⟨g, hv, h1, h2⟩ := h.b.block
  obtain ⟨j, hj, h3, h4⟩ := h.a.block
  have hne := h.ne
  refine ⟨h.q.far (B := x + 2) (Nat.le_refl _) ((Below.refl _ _).grown hg (by have := h.a.low; omega) (fun k hk => by rw [hv] at hk; injection hk with hk; omega)), h.a.kept (fun k hk hl => hg.block k hl (fun e => hne (by rw [← e, hk]))) hg.size, ho, ?_⟩
  rcases hn with e | ⟨g2, e, h5⟩
  · rw [e]; exact hne
  · rw [e, hj]; intro e2; injection e2 with e2; omega
theorem Qp.sa (h : Qp w b K x n S R m T U v u L M wr) (k : Int) (V X : ByteArray) : Qp w b K x k V X m T U v u L M (((wr.setCell ⟨x, 0, none⟩ (.int .i64 k)).setCell ⟨x, 1, none⟩ (.string V)).setCell ⟨x, 2, none⟩ (.string X)) :=
  ⟨h.q.sa k V X, h.a.set3 (by omega) k V X, h.b.set3 (by omega) k V X, h.ne⟩
/-- A number of the first list is stored anew. -/
theorem Qp.turn {g cap : Nat} (h : Qp w b K x n S R m T U (.slice (some ⟨g, 0, none⟩) L.length cap) u L M wr) {i : Nat} (z : Int) : Qp w b K x n S R m T U (.slice (some ⟨g, 0, none⟩) L.length cap) u (L.set i z) M (wr.setCell ⟨g, i, none⟩ (.int .i64 z)) := by
  obtain ⟨g2, hv, h1, h2⟩ := h.a.block
  have hgg : g = g2 := by injection hv
  subst hgg
  obtain ⟨j, hj, h3, h4⟩ := h.b.block
  have hne := h.ne
  refine ⟨h.q.far (B := x + 2) (Nat.le_refl _) ((Below.refl _ _).setCell h1 _), h.a.setI rfl i z, h.b.kept (fun k hk hl => ?_) (by simp [World.setCell]), hne⟩
  exact Below.heap_setCell _ _ _ _ (fun e => hne (by rw [hk]; exact congrArg some (Eq.symm e)))
end
theorem l1Part_4 (n : Nat) (S R : ByteArray) (v : Value) (w : World) (hn : 4 < n) (h8 : n ≤ 8) (hS : S.size = n) (hR : R.size = n * n) (hv : NumsAt w v [0, 1, 2, 3]) :
    Calls Tryz.prog 56 #[strV n S R, v] w fun e w' => (∃ T U : ByteArray, T.size = 4 ∧ U.size = 4 * 4 ∧ e = .returned (strV (4 : Int) T U)) ∧ Below w.heap.size w w' := by
  refine (l1Part_any n S R [0, 1, 2, 3] v w h8 hS hR (by decide) (fun j hj => ?_) hv).mono fun e w' h => ⟨?_, h.2⟩
  · match j, hj with
    | 0, _ => show 0 < n; omega
    | 1, _ => show 1 < n; omega
    | 2, _ => show 2 < n; omega
    | 3, _ => show 3 < n; omega
  · refine ⟨_, _, ?_, ?_, by rw [h.1]; rfl⟩
    · exact bitsOf_size _ _
    · exact bitsOf_size _ _
theorem four_nums (w : World) : NumsAt (w.alloc (.cells #[.int .i64 0, .int .i64 1, .int .i64 2, .int .i64 3] 3)) (.slice (some ⟨w.heap.size, 0, none⟩) 4 4) [0, 1, 2, 3] := by
  have h := heap_alloc_new w (.cells #[.int .i64 0, .int .i64 1, .int .i64 2, .int .i64 3] 3)
  refine .inr ⟨w.heap.size, 0, 4, rfl, by decide, by decide, by simp, fun j hj => ?_⟩
  match j, hj with
  | 0, _ => unfold World.cell?; rw [h]; rfl
  | 1, _ => unfold World.cell?; rw [h]; rfl
  | 2, _ => unfold World.cell?; rw [h]; rfl
  | 3, _ => unfold World.cell?; rw [h]; rfl
/-- Both structures of the draw, valid in size. -/
def Qv (w : World) (b K x : Nat) (wr : World) : Prop := ∃ (n m : Nat) (S R T U : ByteArray), (1 ≤ n ∧ n ≤ 5) ∧ (1 ≤ m ∧ m ≤ 5) ∧ (S.size = n ∧ R.size = n * n) ∧ (T.size = m ∧ U.size = m * m) ∧ Qr w b K x (n : Int) S R (m : Int) T U 0 ⟨#[]⟩ ⟨#[]⟩ 0 ⟨#[]⟩ ⟨#[]⟩ wr
set_option maxHeartbeats 4000000 in
theorem l7Some_any (b K : Nat) (w : World) (h : RdB w b K) (hk : K < 100000000) :
    Calls Tryz.prog 24 #[.pointer (some ⟨b, 0, none⟩)] w (PairLO b (K + 300) w) := by
  have hb := h.block
  obtain ⟨W, hW⟩ : ∃ W, (w.alloc (.cells #[.int .i64 0, .string ⟨#[]⟩, .string ⟨#[]⟩] 24)).alloc (.cells #[.int .i64 0, .string ⟨#[]⟩, .string ⟨#[]⟩] 24) = W := ⟨_, rfl⟩
  have HB0 : Hid (Below w.heap.size w W ∧ SBlk W w.heap.size 0 ⟨#[]⟩ ⟨#[]⟩ ∧ SBlk W (w.heap.size + 1) 0 ⟨#[]⟩ ⟨#[]⟩ ∧ W.heap.size = w.heap.size + 2) := by
    subst hW
    have h1 : Below w.heap.size w (w.alloc (.cells #[.int .i64 0, .string ⟨#[]⟩, .string ⟨#[]⟩] 24)) := (Below.refl _ _).alloc (Nat.le_refl _) _
    have h2 := SBlk.new (w.alloc (.cells #[.int .i64 0, .string ⟨#[]⟩, .string ⟨#[]⟩] 24)) 0 ⟨#[]⟩ ⟨#[]⟩
    rw [World.size_alloc] at h2
    refine ⟨h1.alloc h1.size _, (SBlk.new w 0 ⟨#[]⟩ ⟨#[]⟩).below ((Below.refl _ _).alloc (Nat.le_refl _) _) (by simp), h2, by simp⟩
  have HR := Lib.hid (rdB_bel h HB0.out.1)
  have HW := Lib.hid hW
  clear h hW
  go_enter Tryz.func24, Tryz.ntmps24
  go_upto_region 1 with fail
  rw [HW.out]
  go_wp2_with fail
  refine (l1Pair_any b K W HR.out (by omega)).mono ?_; rintro e w1 ⟨n, m, S, R, T, U, n1, n5, m1, m5, hS, hR, hT, hU, rfl, hr, hg⟩
  have hal : Below w1.heap.size w1 (w1.alloc (.cells #[.int .i64 (n : Int), .string S, .string R] 24)) := (Below.refl _ _).alloc (Nat.le_refl _) _
  obtain ⟨W2, hW2⟩ : ∃ W, (w1.alloc (.cells #[.int .i64 (n : Int), .string S, .string R] 24)).alloc (.cells #[.int .i64 (m : Int), .string T, .string U] 24) = W := ⟨_, rfl⟩
  have HQ2 : Hid (Qr w b (K + 200) w1.heap.size (n : Int) S R (m : Int) T U 0 ⟨#[]⟩ ⟨#[]⟩ 0 ⟨#[]⟩ ⟨#[]⟩ W2) := by
    rw [← hW2]
    have hs := hg.size
    have h3 := HB0.out.2.2.2
    have hal2 : Below (w1.alloc (.cells #[.int .i64 (n : Int), .string S, .string R] 24)).heap.size (w1.alloc (.cells #[.int .i64 (n : Int), .string S, .string R] 24)) ((w1.alloc (.cells #[.int .i64 (n : Int), .string S, .string R] 24)).alloc (.cells #[.int .i64 (m : Int), .string T, .string U] 24)) := (Below.refl _ _).alloc (Nat.le_refl _) _
    have hp : Pr w b (K + 200) w1.heap.size (n : Int) S R 0 ⟨#[]⟩ ⟨#[]⟩ 0 ⟨#[]⟩ ⟨#[]⟩ (w1.alloc (.cells #[.int .i64 (n : Int), .string S, .string R] 24)) :=
      ⟨rdB_bel hr hal, (HB0.out.2.1.grown hg (by omega)).below hal (by omega), (HB0.out.2.2.1.grown hg (by omega)).below hal (by omega), SBlk.new w1 _ S R, ⟨hb, by omega⟩, ((grown_belowS (row := some b) HB0.out.1).trans hg).trans (grown_belowS hal)⟩
    have hn := SBlk.new (w1.alloc (.cells #[.int .i64 (n : Int), .string S, .string R] 24)) (m : Int) T U
    rw [World.size_alloc] at hn
    exact ⟨hp.below hal2, hn⟩
  have HW2 := Lib.hid hW2
  clear hr hg hal hW2
  unfold strV
  go_upto_region 2 with fail
  rw [HW2.out]
  generalize w1.heap.size = x6 at *
  have HSZ : Hid ((1 ≤ n ∧ n ≤ 5) ∧ (1 ≤ m ∧ m ≤ 5) ∧ (S.size = n ∧ R.size = n * n) ∧ T.size = m ∧ U.size = m * m) := ⟨⟨n1, n5⟩, ⟨m1, m5⟩, ⟨hS, hR⟩, hT, hU⟩
  clear HW2 HB0 HR HW n1 n5 m1 m5 hS hR hT hU
  obtain ⟨c0, c1, c2, f0, f1, f2, hl⟩ := HQ2.out.p.a.cells
  go_upto_if 18 with fail
  go_cut [5] (fun v wx => v = .slice none 0 0 ∧ Hid (Qv w b (K + 200) x6 wx))
  case first =>
    by_cases hn4 : 4 < n
    · have hn4I : (4 : Int) < (n : Int) := by omega
      have HPT := Lib.hid (fun v w hv => l1Part_4 n S R v w hn4 (by have := HSZ.out; omega) HSZ.out.2.2.1.1 HSZ.out.2.2.1.2 hv)
      have HFN := Lib.hid (four_nums W2)
      unfold strV at HPT
      go_wp2_with fail
      refine (HPT.out _ _ HFN.out).mono ?_; rintro e w3 ⟨⟨V, X, hV, hX, rfl⟩, hb3⟩
      have HQ3 := Lib.hid ((HQ2.out.below ((Below.refl _ _).alloc (Nat.le_refl _) _)).below hb3)
      have HQ4 := Lib.hid (HQ3.out.sa 4 V X)
      clear c0 c1 c2 f0 f1 f2 hl hb3
      obtain ⟨c0, c1, c2, f0, f1, f2, hl⟩ := HQ3.out.p.a.cells
      go_wp2_with fail
      go_meet
      exact ⟨rfl, 4, m, V, X, T, U, ⟨by omega, by omega⟩, HSZ.out.2.1, ⟨hV, hX⟩, HSZ.out.2.2.2, HQ4.out⟩
    · have hn4I : ¬ (4 : Int) < (n : Int) := by omega
      go_wp2_with fail
      go_meet
      exact ⟨rfl, n, m, S, R, T, U, HSZ.out.1, HSZ.out.2.1, HSZ.out.2.2.1, HSZ.out.2.2.2, HQ2.out⟩
  case rest =>
    obtain ⟨rfl, HQV⟩ := hcut
    clear HQ2 HSZ c0 c1 c2 f0 f1 f2 hl
    obtain ⟨n, m, S, R, T, U, hn, hm, hS, hT, hq⟩ := HQV.out
    have HQ2 := Lib.hid hq
    have HSZ : Hid ((1 ≤ n ∧ n ≤ 5) ∧ (1 ≤ m ∧ m ≤ 5) ∧ (S.size = n ∧ R.size = n * n) ∧ T.size = m ∧ U.size = m * m) := ⟨hn, hm, hS, hT⟩
    clear HQV hn hm hS hT hq
    obtain ⟨c0, c1, c2, f0, f1, f2, hl⟩ := HQ2.out.c.cells
    go_upto_if 24 with fail
    go_cut [5] (fun v wx => v = .slice none 0 0 ∧ Hid (Qv w b (K + 200) x6 wx))
    case first =>
      by_cases hn4 : 4 < m
      · have hn4I : (4 : Int) < (m : Int) := by omega
        have HPT := Lib.hid (fun v w hv => l1Part_4 m T U v w hn4 (by have := HSZ.out; omega) HSZ.out.2.2.2.1 HSZ.out.2.2.2.2 hv)
        have HFN := Lib.hid (four_nums wc)
        unfold strV at HPT
        go_wp2_with fail
        refine (HPT.out _ _ HFN.out).mono ?_; rintro e w3 ⟨⟨V, X, hV, hX, rfl⟩, hb3⟩
        have HQ3 := Lib.hid ((HQ2.out.below ((Below.refl _ _).alloc (Nat.le_refl _) _)).below hb3)
        have HQ4 := Lib.hid (HQ3.out.sb 4 V X)
        clear c0 c1 c2 f0 f1 f2 hl hb3
        obtain ⟨c0, c1, c2, f0, f1, f2, hl⟩ := HQ3.out.c.cells
        go_wp2_with fail
        go_meet
        exact ⟨rfl, n, 4, S, R, V, X, HSZ.out.1, ⟨by omega, by omega⟩, HSZ.out.2.2.1, ⟨hV, hX⟩, HQ4.out⟩
      · have hn4I : ¬ (4 : Int) < (m : Int) := by omega
        go_wp2_with fail
        go_meet
        exact ⟨rfl, n, m, S, R, T, U, HSZ.out.1, HSZ.out.2.1, HSZ.out.2.2.1, HSZ.out.2.2.2, HQ2.out⟩
    case rest =>
      obtain ⟨rfl, HQV⟩ := hcut
      clear HQ2 HSZ c0 c1 c2 f0 f1 f2 hl
      obtain ⟨n, m, S, R, T, U, hn, hm, hS, hT, hq⟩ := HQV.out
      have HQ2 := Lib.hid hq
      have HSZ : Hid ((1 ≤ n ∧ n ≤ 5) ∧ (1 ≤ m ∧ m ≤ 5) ∧ (S.size = n ∧ R.size = n * n) ∧ T.size = m ∧ U.size = m * m) := ⟨hn, hm, hS, hT⟩
      have hn1 : (1 : Int) ≤ (n : Int) := by omega
      have hn5 : (n : Int) ≤ 5 := by omega
      have hm1 : (1 : Int) ≤ (m : Int) := by omega
      have hm5 : (m : Int) ≤ 5 := by omega
      clear HQV hn hm hS hT hq
      have HP0 : Hid (Qp w b (K + 200) x6 (n : Int) S R (m : Int) T U (.slice (some ⟨wc.heap.size, 0, none⟩) 0 0) (.slice (some ⟨wc.heap.size + 1, 0, none⟩) 0 0) [] [] ((wc.alloc (.cells #[] 3)).alloc (.cells #[] 3))) := by
        have hx : x6 + 2 ≤ wc.heap.size := by have := HQ2.out.c.cells.2.2.2.2.2.2; omega
        have hb1 : Below wc.heap.size wc (wc.alloc (.cells #[] 3)) := (Below.refl _ _).alloc (Nat.le_refl _) _
        have hb2 : Below (wc.alloc (.cells #[] 3)).heap.size (wc.alloc (.cells #[] 3)) ((wc.alloc (.cells #[] 3)).alloc (.cells #[] 3)) := (Below.refl _ _).alloc (Nat.le_refl _) _
        have h2 := OwnI.lit0 (x6 + 2) (wc.alloc (.cells #[] 3)) (by simp; omega)
        rw [World.size_alloc] at h2
        refine ⟨(HQ2.out.below hb1).below hb2, (OwnI.lit0 (x6 + 2) wc hx).below hb2, h2, ?_⟩
        show some wc.heap.size ≠ some (wc.heap.size + 1)
        intro e; injection e with e; omega
      clear HQ2
      go_upto_region 8 with fail
      generalize (wc.alloc (.cells #[] 3)).alloc (.cells #[] 3) = W8 at *
      generalize wc.heap.size = xa at *
      have HN := Lib.hid (fun T => num_list W8 b (K + 200) [2, 2, 1, 2, 3] T HP0.out.q.p.rd (by omega) (by decide) (by decide))
      go_wp2_with fail
      refine (HN.out _).mono ?_; rintro e w3 ⟨c, hc, rfl, hr, hg⟩
      have HQ3 := Lib.hid (HP0.out.pick hr hg)
      have hc' : ∃ k : Nat, c = (k : Int) ∧ 1 ≤ k ∧ k ≤ 3 := by
        simp at hc
        rcases hc with rfl | rfl | rfl | rfl
        · exact ⟨2, rfl, by omega, by omega⟩
        · exact ⟨1, rfl, by omega, by omega⟩
        · exact ⟨2, rfl, by omega, by omega⟩
        · exact ⟨3, rfl, by omega, by omega⟩
      obtain ⟨c, rfl, hc1, hc3⟩ := hc'
      clear hr hg hc HN HP0
      go_wp2_with fail
      go_loopw [8, 9, 10] (fun v u q wr => ∃ (j : Nat) (L M : List Int), j + L.length = c ∧ M.length = L.length ∧ q = .int .i64 (j : Int) ∧ Hid (∀ x ∈ L, -1 ≤ x ∧ x ≤ 8) ∧ Hid (Qp w b (K + 201 + 3 * L.length) x6 (n : Int) S R (m : Int) T U v u L M wr)) (fun _ _ q _ => (intOf q).toNat)
      case atStart => exact ⟨c, [], [], by simp, rfl, rfl, fun x hx => (by cases hx), HQ3.out⟩
      case round =>
        clear HQ3
        obtain ⟨j, L, M, hj, hML, rfl, HE, HQ⟩ := hrel
        have HL1 : Hid (L.length ≤ 2000000 ∧ M.length ≤ 2000000) := ⟨by omega, by omega⟩
        have hL3 : L.length ≤ 3 := by omega
        by_cases hlt : 0 < j
        · have hjI : (0 : Int) < (j : Int) := by omega
          have HE1 : Hid (∀ z : Int, -1 ≤ z → z ≤ 8 → ∀ x ∈ L ++ [z], -1 ≤ x ∧ x ≤ 8) := fun z h1 h2 x hx => by
            rcases List.mem_append.1 hx with hx | hx
            · exact HE.out x hx
            · rw [List.mem_singleton.1 hx]; exact ⟨h1, h2⟩
          go_wp2_with fail
          refine (pickB _ b _ _ HQ.out.q.p.rd (by omega) (by omega) (by omega)).mono ?_; rintro e w4 ⟨z, rfl, z0, z1, hr, hg⟩
          have HQ4 := Lib.hid (HQ.out.pick hr hg)
          clear hr hg HQ
          by_cases hz : z = 0
          · have hzB : (z == 0) = true := by simpa using hz
            clear z0 z1 hz
            go_upto_region 12 with fail
            go_wp2_with (first | (at_builtin; refine wpList_ownI2 HQ4.out.a HL1.out.1 rfl (.tmp 40) (.tmp 41) rfl (-1) _ rfl rfl rfl ?_; intro v' w' ho hg hn; have HQ5 := Lib.hid (HQ4.out.pushA ho hg hn); clear ho hg hn) | (at_builtin; refine wpList_ownI2 HQ5.out.b HL1.out.2 rfl (.tmp 43) (.tmp 44) rfl (-1) _ rfl rfl rfl ?_; intro u' w'' ho hg hn; have HQ6 := Lib.hid (HQ5.out.pushB ho hg hn); clear ho hg hn) | fail)
            go_roundw
            case rel => exact ⟨j - 1, L ++ [-1], M ++ [-1], by simp; omega, by simp [hML], by congr 1; omega, HE1.out (-1) (by omega) (by omega), HQ6.out.mono (by simp; omega)⟩
            case measure => simp [intOf]; omega
          · have hzB : (z == 0) = false := by simpa using hz
            obtain ⟨c0, c1, c2, f0, f1, f2, hl⟩ := HQ4.out.q.p.a.cells
            clear z0 z1 hz
            go_wp2_with fail
            refine (pickB _ b _ _ HQ4.out.q.p.rd (by omega) (by omega) (by omega)).mono ?_; rintro e w5 ⟨y, rfl, y0, y1, hr, hg⟩
            have HQ5 := Lib.hid (HQ4.out.pick hr hg)
            clear hr hg c0 c1 c2 f0 f1 f2 hl HQ4
            go_wp2_with (first | (at_builtin; refine wpList_ownI2 HQ5.out.a HL1.out.1 rfl (.tmp 46) (.tmp 51) rfl y _ rfl rfl rfl ?_; intro v' w' ho hg hn; have HQ6 := Lib.hid (HQ5.out.pushA ho hg hn); clear ho hg hn; obtain ⟨c0, c1, c2, f0, f1, f2, hl⟩ := HQ6.out.q.c.cells) | fail)
            refine (pickB _ b _ _ HQ6.out.q.p.rd (by omega) (by omega) (by omega)).mono ?_; rintro e w7 ⟨x, rfl, x0, x1, hr, hg⟩
            have HQ7 := Lib.hid (HQ6.out.pick hr hg)
            clear hr hg c0 c1 c2 f0 f1 f2 hl HQ6
            go_wp2_with (first | (at_builtin; refine wpList_ownI2 HQ7.out.b HL1.out.2 rfl (.tmp 53) (.tmp 58) rfl x _ rfl rfl rfl ?_; intro u' w'' ho hg hn; have HQ8 := Lib.hid (HQ7.out.pushB ho hg hn); clear ho hg hn) | fail)
            go_roundw
            case rel => exact ⟨j - 1, L ++ [y], M ++ [x], by simp; omega, by simp [hML], by congr 1; omega, HE1.out y (by omega) (by omega), HQ8.out.mono (by simp; omega)⟩
            case measure => simp [intOf]; omega
        · obtain rfl : j = 0 := by omega
          obtain rfl : c = L.length := by omega
          have hjI : ¬ (0 : Int) < ((0 : Nat) : Int) := by omega
          have HQ9 := Lib.hid (HQ.out.mono (show K + 201 + 3 * L.length ≤ K + 220 by omega))
          clear HQ hj
          go_wp2_with fail
          refine (pickB _ b _ _ HQ9.out.q.p.rd (by omega) (by omega) (by omega)).mono ?_; rintro e wp ⟨z, rfl, z0, z1, hr, hg⟩
          have HU := Lib.hid (HQ9.out.pick hr hg)
          clear hr hg HQ9
          have HSZ2 := HSZ.out
          have hnn : n * n ≤ 25 := Nat.mul_le_mul HSZ2.1.2 HSZ2.1.2
          have hmm : m * m ≤ 25 := Nat.mul_le_mul HSZ2.2.1.2 HSZ2.2.1.2
          by_cases hz0 : z = 0
          · subst hz0
            have HN := Lib.hid (fun T => num_list wp b _ [-2, 8, 0] T HU.out.q.p.rd (by omega) (by decide) (by decide))
            go_wp2_with fail
            refine (HN.out _).mono ?_; rintro e wq ⟨y, hy, rfl, hr, hg⟩
            have HU2 := Lib.hid (HU.out.pick hr hg)
            clear hr hg hy
            go_wp2_with (first | (at_builtin; refine wpList_ownI2 HU2.out.a HL1.out.1 rfl (.tmp 64) (.tmp 68) rfl y _ rfl rfl rfl ?_; intro v' w' ho hg hn; have HV := Lib.hid (HU2.out.pushA ho hg hn); clear ho hg hn) | fail)
            have hL2 : (L ++ [y]).length ≤ 40 := by rw [List.length_append, List.length_singleton]; omega
            have hqne := HV.out.q.p.ne
            obtain ⟨c0, c1, c2, f0, f1, f2, hl⟩ := HV.out.q.p.a.cells
            obtain ⟨e0, e1, e2, _, _, _, l9⟩ := HV.out.q.c.cells
            obtain ⟨g0, g1, g2, i0, i1, i2, hl1⟩ := HV.out.q.p.r1.cells
            obtain ⟨k0, k1, k2, j0, j1, j2, hl2⟩ := HV.out.q.p.r2.cells
            have hy0 : w.heap.size ≠ x6 := by omega
            have hy1 : w.heap.size + 1 ≠ x6 := by omega
            have hy2 : w.heap.size ≠ x6 + 1 := by omega
            have hy3 : w.heap.size + 1 ≠ x6 + 1 := by omega
            go_wp2_with fail
            go_region_held3 (fun w' => w'.cell? ⟨x6, 0, none⟩ = some (.int .i64 (n : Int)) ∧ w'.cell? ⟨x6, 1, none⟩ = some (.string S) ∧ w'.cell? ⟨x6, 2, none⟩ = some (.string R) ∧ w'.cell? ⟨x6 + 1, 0, none⟩ = some (.int .i64 (m : Int)) ∧ w'.cell? ⟨x6 + 1, 1, none⟩ = some (.string T) ∧ w'.cell? ⟨x6 + 1, 2, none⟩ = some (.string U))
              (go_keep)
              (fail)
            all_goals
              have HF := Lib.hid (((HV.out.q.s1 (n : Int) S R).s2 (m : Int) T U).drew)
              have HO1 := Lib.hid (((HV.out.a.set3 (show w.heap.size < x6 + 2 by omega) (n : Int) S R).set3 (show w.heap.size + 1 < x6 + 2 by omega) (m : Int) T U).below (Below.refl _ _).drew)
              have HO2 := Lib.hid (((HV.out.b.set3 (show w.heap.size < x6 + 2 by omega) (n : Int) S R).set3 (show w.heap.size + 1 < x6 + 2 by omega) (m : Int) T U).below (Below.refl _ _).drew)
              go_wp2_with fail
              refine bodyPost_ret (v := .tuple #[strV (n : Int) S R, v', strV (m : Int) T U, u9]) ?_ rfl (pairL_fin HF.out (by omega) ⟨by omega, by omega⟩ ⟨by omega, by omega⟩ (by omega) (by omega) (by omega) (by omega) hL2 (by omega) (by omega) (by omega) HO1.out HO2.out)
              exact results_c4 rfl rfl HF.out.p.r1 rfl rfl HF.out.p.r2 rfl
          · have hz0B : (z == 0) = false := by simpa using hz0
            by_cases hz1 : z = 1
            · subst hz1
              have h0 : 0 < L.length := by omega
              have hy := HE.out (L.getD 0 0) (by rw [List.getD_eq_getElem?_getD, List.getElem?_eq_getElem h0]; exact List.getElem_mem h0)
              obtain ⟨ga, capa, rfl, _, hga, hca, hcm, hcc⟩ := HU.out.a.cells
              have d0 := hcc 0 h0
              have d1 := HU.out.a.frozen rfl 0
              have HV0 := Lib.hid (HU.out.turn (i := 0) (-1 - L.getD 0 0))
              have h0I : (0 : Int) < (L.length : Int) := by omega
              have hL2 : (L.set 0 (-1 - L.getD 0 0)).length ≤ 40 := by rw [List.length_set]; omega
              generalize L.getD 0 0 = y at *
              unfold maxLen at hcm
              clear hcc
              go_upto_region 25 with fail
              generalize wp.setCell ⟨ga, 0, none⟩ (.int .i64 (-1 - y)) = wq at *
              generalize L.set 0 (-1 - y) = L2 at *
              have HV := HV0
              clear d0 d1
              have hqne := HV.out.q.p.ne
              obtain ⟨c0, c1, c2, f0, f1, f2, hl⟩ := HV.out.q.p.a.cells
              obtain ⟨e0, e1, e2, _, _, _, l9⟩ := HV.out.q.c.cells
              obtain ⟨g0, g1, g2, i0, i1, i2, hl1⟩ := HV.out.q.p.r1.cells
              obtain ⟨k0, k1, k2, j0, j1, j2, hl2⟩ := HV.out.q.p.r2.cells
              have hy0 : w.heap.size ≠ x6 := by omega
              have hy1 : w.heap.size + 1 ≠ x6 := by omega
              have hy2 : w.heap.size ≠ x6 + 1 := by omega
              have hy3 : w.heap.size + 1 ≠ x6 + 1 := by omega
              go_wp2_with fail
              go_region_held3 (fun w' => w'.cell? ⟨x6, 0, none⟩ = some (.int .i64 (n : Int)) ∧ w'.cell? ⟨x6, 1, none⟩ = some (.string S) ∧ w'.cell? ⟨x6, 2, none⟩ = some (.string R) ∧ w'.cell? ⟨x6 + 1, 0, none⟩ = some (.int .i64 (m : Int)) ∧ w'.cell? ⟨x6 + 1, 1, none⟩ = some (.string T) ∧ w'.cell? ⟨x6 + 1, 2, none⟩ = some (.string U))
                (go_keep)
                (fail)
              all_goals
                have HF := Lib.hid (((HV.out.q.s1 (n : Int) S R).s2 (m : Int) T U).drew)
                have HO1 := Lib.hid (((HV.out.a.set3 (show w.heap.size < x6 + 2 by omega) (n : Int) S R).set3 (show w.heap.size + 1 < x6 + 2 by omega) (m : Int) T U).below (Below.refl _ _).drew)
                have HO2 := Lib.hid (((HV.out.b.set3 (show w.heap.size < x6 + 2 by omega) (n : Int) S R).set3 (show w.heap.size + 1 < x6 + 2 by omega) (m : Int) T U).below (Below.refl _ _).drew)
                go_wp2_with fail
                refine bodyPost_ret (v := .tuple #[strV (n : Int) S R, (.slice (some ⟨ga, 0, none⟩) L.length capa), strV (m : Int) T U, u9]) ?_ rfl (pairL_fin HF.out (by omega) ⟨by omega, by omega⟩ ⟨by omega, by omega⟩ (by omega) (by omega) (by omega) (by omega) hL2 (by omega) (by omega) (by omega) HO1.out HO2.out)
                exact results_c4 rfl rfl HF.out.p.r1 rfl rfl HF.out.p.r2 rfl
            · have hz1B : (z == 1) = false := by simpa using hz1
              by_cases hz2 : z = 2
              · subst hz2
                have HBD := Lib.hid (l1Bad_any b _ n S R HSZ2.1.1 HSZ2.1.2 HSZ2.2.2.1.1 HSZ2.2.2.1.2 wp HU.out.q.p.rd (by omega))
                unfold strV at HBD
                obtain ⟨c0, c1, c2, f0, f1, f2, hl⟩ := HU.out.q.p.a.cells
                go_wp2_with fail
                refine HBD.out.mono ?_; rintro e wq ⟨n', S', R', n0, n9, hS', hR', rfl, hr, hg⟩
                have HU2 := Lib.hid (HU.out.pick hr hg)
                have HV := Lib.hid (HU2.out.sa n' S' R')
                clear hr hg c0 c1 c2 f0 f1 f2 hl HBD
                obtain ⟨c0, c1, c2, f0, f1, f2, hl⟩ := HU2.out.q.p.a.cells
                unfold strV
                go_upto_region 25 with fail
                obtain ⟨wd, hwd⟩ : ∃ x, (((wq.setCell ⟨x6, 0, none⟩ (.int .i64 n')).setCell ⟨x6, 1, none⟩ (.string S')).setCell ⟨x6, 2, none⟩ (.string R')) = x := ⟨_, rfl⟩
                rw [hwd] at HV ⊢
                clear hwd c0 c1 c2 f0 f1 f2 hl
                have hqne := HV.out.q.p.ne
                obtain ⟨c0, c1, c2, f0, f1, f2, hl⟩ := HV.out.q.p.a.cells
                obtain ⟨e0, e1, e2, _, _, _, l9⟩ := HV.out.q.c.cells
                obtain ⟨g0, g1, g2, i0, i1, i2, hl1⟩ := HV.out.q.p.r1.cells
                obtain ⟨k0, k1, k2, j0, j1, j2, hl2⟩ := HV.out.q.p.r2.cells
                have hy0 : w.heap.size ≠ x6 := by omega
                have hy1 : w.heap.size + 1 ≠ x6 := by omega
                have hy2 : w.heap.size ≠ x6 + 1 := by omega
                have hy3 : w.heap.size + 1 ≠ x6 + 1 := by omega
                go_wp2_with fail
                go_region_held3 (fun w' => w'.cell? ⟨x6, 0, none⟩ = some (.int .i64 n') ∧ w'.cell? ⟨x6, 1, none⟩ = some (.string S') ∧ w'.cell? ⟨x6, 2, none⟩ = some (.string R') ∧ w'.cell? ⟨x6 + 1, 0, none⟩ = some (.int .i64 (m : Int)) ∧ w'.cell? ⟨x6 + 1, 1, none⟩ = some (.string T) ∧ w'.cell? ⟨x6 + 1, 2, none⟩ = some (.string U))
                  (go_keep)
                  (fail)
                all_goals
                  have HF := Lib.hid (((HV.out.q.s1 n' S' R').s2 (m : Int) T U).drew)
                  have HO1 := Lib.hid (((HV.out.a.set3 (show w.heap.size < x6 + 2 by omega) n' S' R').set3 (show w.heap.size + 1 < x6 + 2 by omega) (m : Int) T U).below (Below.refl _ _).drew)
                  have HO2 := Lib.hid (((HV.out.b.set3 (show w.heap.size < x6 + 2 by omega) n' S' R').set3 (show w.heap.size + 1 < x6 + 2 by omega) (m : Int) T U).below (Below.refl _ _).drew)
                  go_wp2_with fail
                  refine bodyPost_ret (v := .tuple #[strV n' S' R', u8, strV (m : Int) T U, u9]) ?_ rfl (pairL_fin HF.out (by omega) ⟨n0, n9⟩ ⟨by omega, by omega⟩ hS' hR' (by omega) (by omega) (by omega) (by omega) (by omega) (by omega) HO1.out HO2.out)
                  exact results_c4 rfl rfl HF.out.p.r1 rfl rfl HF.out.p.r2 rfl
              · have hz2B : (z == 2) = false := by simpa using hz2
                by_cases hz3 : z = 3
                · subst hz3
                  have HS6 := Lib.hid ((HU.out.q.s1 (n : Int) S R).s2 (m : Int) T U)
                  have hx9 : x6 + 2 ≤ wp.heap.size := by have := HU.out.q.c.cells.2.2.2.2.2.2; omega
                  have hz6 : ((((((wp.setCell ⟨w.heap.size, 0, none⟩ (.int .i64 (n : Int))).setCell ⟨w.heap.size, 1, none⟩ (.string S)).setCell ⟨w.heap.size, 2, none⟩ (.string R)).setCell ⟨w.heap.size + 1, 0, none⟩ (.int .i64 (m : Int))).setCell ⟨w.heap.size + 1, 1, none⟩ (.string T)).setCell ⟨w.heap.size + 1, 2, none⟩ (.string U)).heap.size = wp.heap.size := by simp
                  have HZ6 := Lib.hid hz6
                  clear hz6
                  have hqne := HU.out.q.p.ne
                  obtain ⟨c0, c1, c2, f0, f1, f2, hl⟩ := HU.out.q.p.a.cells
                  obtain ⟨e0, e1, e2, _, _, _, l9⟩ := HU.out.q.c.cells
                  obtain ⟨g0, g1, g2, i0, i1, i2, hl1⟩ := HU.out.q.p.r1.cells
                  obtain ⟨k0, k1, k2, j0, j1, j2, hl2⟩ := HU.out.q.p.r2.cells
                  have hy0 : w.heap.size ≠ x6 := by omega
                  have hy1 : w.heap.size + 1 ≠ x6 := by omega
                  have hy2 : w.heap.size ≠ x6 + 1 := by omega
                  have hy3 : w.heap.size + 1 ≠ x6 + 1 := by omega
                  go_wp2_with fail
                  go_region
                  all_goals
                    generalize ((((((wp.setCell ⟨w.heap.size, 0, none⟩ (.int .i64 (n : Int))).setCell ⟨w.heap.size, 1, none⟩ (.string S)).setCell ⟨w.heap.size, 2, none⟩ (.string R)).setCell ⟨w.heap.size + 1, 0, none⟩ (.int .i64 (m : Int))).setCell ⟨w.heap.size + 1, 1, none⟩ (.string T)).setCell ⟨w.heap.size + 1, 2, none⟩ (.string U)) = W6 at *
                    have hz6 := HZ6.out
                    have hb1 : Below W6.heap.size W6 (W6.alloc (.cells #[] 3)) := (Below.refl _ _).alloc (Nat.le_refl _) _
                    have hb2 : Below (W6.alloc (.cells #[] 3)).heap.size (W6.alloc (.cells #[] 3)) ((W6.alloc (.cells #[] 3)).alloc (.cells #[] 3)) := (Below.refl _ _).alloc (Nat.le_refl _) _
                    have h1 := OwnI.lit0 (x6 + 2) W6 (by omega)
                    have h2 := OwnI.lit0 (x6 + 2) (W6.alloc (.cells #[] 3)) (by simp; omega)
                    rw [World.size_alloc] at h2
                    rw [hz6] at h1 h2
                    have HF := Lib.hid (((HS6.out.below hb1).below hb2).drew)
                    have HO1 := Lib.hid ((h1.below hb2).below (Below.refl _ _).drew)
                    have HO2 := Lib.hid (h2.below (Below.refl _ _).drew)
                    generalize (((W6.alloc (.cells #[] 3)).alloc (.cells #[] 3)).drew) = W9 at *
                    clear h1 h2 hb1 hb2 hz6 HZ6 HS6
                    go_wp2_with fail
                  · refine bodyPost_ret (v := .tuple #[strV (n : Int) S R, (.slice (some ⟨wp.heap.size, 0, none⟩) 0 0), strV (m : Int) T U, (.slice (some ⟨wp.heap.size + 1, 0, none⟩) 0 0)]) ?_ rfl (pairL_fin HF.out (by omega) ⟨by omega, by omega⟩ ⟨by omega, by omega⟩ (by omega) (by omega) (by omega) (by omega) (by simp) (by simp) (by omega) (by omega) HO1.out HO2.out)
                    exact results_c4 rfl rfl HF.out.p.r1 rfl rfl HF.out.p.r2 rfl
                  · refine bodyPost_ret (v := .tuple #[strV (n : Int) S R, (.slice (some ⟨wp.heap.size + 1, 0, none⟩) 0 0), strV (m : Int) T U, (.slice (some ⟨wp.heap.size, 0, none⟩) 0 0)]) ?_ rfl (pairL_fin HF.out (by omega) ⟨by omega, by omega⟩ ⟨by omega, by omega⟩ (by omega) (by omega) (by omega) (by omega) (by simp) (by simp) (by omega) (by omega) HO2.out HO1.out)
                    exact results_c4 rfl rfl HF.out.p.r1 rfl rfl HF.out.p.r2 rfl
                · have hz3B : (z == 3) = false := by simpa using hz3
                  have HV := HU
                  have hqne := HV.out.q.p.ne
                  obtain ⟨c0, c1, c2, f0, f1, f2, hl⟩ := HV.out.q.p.a.cells
                  obtain ⟨e0, e1, e2, _, _, _, l9⟩ := HV.out.q.c.cells
                  obtain ⟨g0, g1, g2, i0, i1, i2, hl1⟩ := HV.out.q.p.r1.cells
                  obtain ⟨k0, k1, k2, j0, j1, j2, hl2⟩ := HV.out.q.p.r2.cells
                  have hy0 : w.heap.size ≠ x6 := by omega
                  have hy1 : w.heap.size + 1 ≠ x6 := by omega
                  have hy2 : w.heap.size ≠ x6 + 1 := by omega
                  have hy3 : w.heap.size + 1 ≠ x6 + 1 := by omega
                  go_wp2_with fail
                  go_region_held3 (fun w' => w'.cell? ⟨x6, 0, none⟩ = some (.int .i64 (n : Int)) ∧ w'.cell? ⟨x6, 1, none⟩ = some (.string S) ∧ w'.cell? ⟨x6, 2, none⟩ = some (.string R) ∧ w'.cell? ⟨x6 + 1, 0, none⟩ = some (.int .i64 (m : Int)) ∧ w'.cell? ⟨x6 + 1, 1, none⟩ = some (.string T) ∧ w'.cell? ⟨x6 + 1, 2, none⟩ = some (.string U))
                    (go_keep)
                    (fail)
                  all_goals
                    have HF := Lib.hid (((HV.out.q.s1 (n : Int) S R).s2 (m : Int) T U).drew)
                    have HO1 := Lib.hid (((HV.out.a.set3 (show w.heap.size < x6 + 2 by omega) (n : Int) S R).set3 (show w.heap.size + 1 < x6 + 2 by omega) (m : Int) T U).below (Below.refl _ _).drew)
                    have HO2 := Lib.hid (((HV.out.b.set3 (show w.heap.size < x6 + 2 by omega) (n : Int) S R).set3 (show w.heap.size + 1 < x6 + 2 by omega) (m : Int) T U).below (Below.refl _ _).drew)
                    go_wp2_with fail
                    refine bodyPost_ret (v := .tuple #[strV (n : Int) S R, u8, strV (m : Int) T U, u9]) ?_ rfl (pairL_fin HF.out (by omega) ⟨by omega, by omega⟩ ⟨by omega, by omega⟩ (by omega) (by omega) (by omega) (by omega) (by omega) (by omega) (by omega) (by omega) HO1.out HO2.out)
                    exact results_c4 rfl rfl HF.out.p.r1 rfl rfl HF.out.p.r2 rfl
end Go.Proofs.YtnhlhjehocngcaaGreatDoor
