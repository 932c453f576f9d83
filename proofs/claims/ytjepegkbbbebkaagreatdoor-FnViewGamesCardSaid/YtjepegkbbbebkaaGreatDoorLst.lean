/- Lists of elements: the program's areElements, holds and HoldsAt with four elements, the laws' gsHolds and gsFour. Conditions: the structure is valid, the numbers are its elements. -/
import Derived.Test.YtjepegkbbbebkaaGreatDoorHolds
import Derived.Test.YtjepegkbbbebkaaGreatDoorRd
namespace Go.Proofs.YtjepegkbbbebkaaGreatDoor
open Go.RowKit
set_option linter.unusedVariables false
set_option maxRecDepth 100000

theorem elemNo_any (n x b : Nat) (w : World) (hx : x < n) (hn : n ≤ 8) (hc : w.cell? ⟨b, 0, none⟩ = some (.int .i64 (n : Int))) : Calls Tryz.prog 163 #[.int .i64 (x : Int), .pointer (some ⟨b, 0, none⟩)] w fun en w' => en = .returned (.bool false) ∧ w = w' := by
  go_enter Tryz.func163, Tryz.ntmps163
  go_wp2_with fail
  go_ret
  exact ⟨ret_bool (by simp; omega), rfl⟩
theorem index_els (n b : Nat) (L : List Nat) (v : Value) (w : World) (hv : NumsAt w v L) (hL : ∀ j, j < L.length → L.getD j 0 < n) (hn : n ≤ 8) (hc : w.cell? ⟨b, 0, none⟩ = some (.int .i64 (n : Int))) :
    Calls Tryz.prog 193 #[v, .func (.func 163) #[] #[.pointer (some ⟨b, 0, none⟩)]] w fun en w' => en = .returned (.int .i64 (-1)) ∧ w = w' := by
  have HN := Lib.hid (fun x hx => elemNo_any n x b w hx hn hc)
  have HL := Lib.hid hL
  obtain ⟨a, cap, rfl, l1, l2, l3⟩ := hv.view
  have HC := Lib.hid l3
  clear l3 hv hL hc
  unfold maxLen at l2
  go_enter Tryz.func193, Tryz.ntmps193
  go_wp2_with fail
  go_loopw [8, 5] (fun i _ wr => (∃ k : Nat, k ≤ L.length ∧ i = .int .i64 (k : Int)) ∧ wr = w) (fun i _ _ => L.length - (intOf i).toNat)
  case atStart => exact ⟨⟨0, by omega, rfl⟩, rfl⟩
  case round =>
    obtain ⟨⟨k, hk, rfl⟩, hwr⟩ := hrel
    rw [hwr]; clear hwr
    by_cases hlt : k < L.length
    · obtain ⟨g, o, rfl, hg, hcc⟩ := HC.out (by omega)
      have d1 := hcc k hlt
      have HX := Lib.hid (HN.out _ (HL.out k hlt))
      clear hcc
      generalize L.getD k 0 = x at *
      have hkI : (k : Int) < (L.length : Int) := by omega
      go_wp2_with fail
      refine HX.out.mono ?_; rintro _ w1 ⟨rfl, hw1⟩; rw [← hw1]; clear hw1
      go_wp2_with fail
      go_roundw
      case rel => exact ⟨⟨k + 1, by omega, by go_num⟩, trivial⟩
      case measure => simp [intOf]; omega
    · go_wp2_with fail
      go_ret
      exact ⟨rfl, rfl⟩
theorem areElements_all (n : Nat) (S R : ByteArray) (L : List Nat) (v : Value) (w : World) (hv : NumsAt w v L) (hL : ∀ j, j < L.length → L.getD j 0 < n) (hn : n ≤ 8) : Calls Tryz.prog 98 #[strV n S R, v] w fun en w' => en = .returned (.bool true) ∧ Below w.heap.size w w' := by
  have HB : Hid (SBlk (boxS w n S R) w.heap.size n S R ∧ Below w.heap.size w (boxS w n S R)) := ⟨boxS_SBlk _ _ _ _, boxS_below _ _ _ _⟩
  have HI := Lib.hid (index_els n w.heap.size L v (boxS w n S R) (hv.below HB.out.2) hL hn HB.out.1.cells.1)
  obtain ⟨a, cap, rfl, l1, l2, l3⟩ := hv.view
  clear l3 hv hL
  unfold boxS at HI HB
  unfold strV
  go_enter Tryz.func98, Tryz.ntmps98
  go_wp2_with fail
  go_enter Tryz.func162, Tryz.ntmps162
  go_wp2_with fail
  refine HI.out.mono ?_; rintro _ _ ⟨rfl, rfl⟩
  go_wp2_with fail
  go_ret
  exact ⟨rfl, HB.out.2⟩
/-- The numbers of a list for the variables. -/
def envL (L : List Nat) : Fm.Env := fun i => L.getD i.val 0
theorem envL_lt {L : List Nat} {n : Nat} (hn : 0 < n) (hL : ∀ j, j < L.length → L.getD j 0 < n) : ∀ v, envL L v < n := fun v => by
  unfold envL
  by_cases h : v.val < L.length
  · exact hL _ h
  · simp [h]; omega
theorem copy_intsO (w : World) (b g o cap : Nat) (cs : List Value) (hn : cs.length ≤ 4) (hsrc : ∀ j v, cs[j]? = some v → w.cell? ⟨g, o + j, none⟩ = some v) (hc : ∀ j, j < 4 → (w.cell? ⟨b, j, none⟩).isSome = true) (hf : ∀ j, j < 4 → w.frozen? ⟨b, j, none⟩ = false) (h1 : ∀ v ∈ cs, v.oneCell' = true) :
    (Builtin.copy_ #[25, 25] 3 #[.slice (some ⟨b, 0, none⟩) 4 4, .slice (some ⟨g, o, none⟩) cs.length cap]).run Tryz.prog w = .ok (goInt cs.length) (w.setCells b 0 cs) :=
  run_copy_cells w 25 25 3 3 b 0 4 4 ⟨g, o, none⟩ cs.length cap cs Tryz.underlying25 intSize (by simp [Nat.min_def]; omega) (fun j v h => by
    have := hsrc j v h
    rcases j with _ | j
    · exact this
    · simpa [Addr.add] using this) (fun j hj => by simpa using hc j (by omega)) (fun j hj => by simpa using hf j (by omega)) h1
theorem holds_four (φ : Fm.T) (F G : Nat → Prop) (w : World) (hb kb n : Nat) (S R : ByteArray) (p g o cap x y z u : Nat) (hB : Base F G w hb kb n S R) (hT : Tree F w φ p) (hx : x < n) (hy : y < n) (hz : z < n) (hu : u < n)
    (g0 : w.cell? ⟨g, o, none⟩ = some (.int .i64 (x : Int))) (g1 : w.cell? ⟨g, o + 1, none⟩ = some (.int .i64 (y : Int))) (g2 : w.cell? ⟨g, o + 2, none⟩ = some (.int .i64 (z : Int))) (g3 : w.cell? ⟨g, o + 3, none⟩ = some (.int .i64 (u : Int))) :
    Calls Tryz.prog 62 #[ptrV hb, ptrV p, .slice (some ⟨g, o, none⟩) 4 cap] w fun en w' => en = .returned (.bool (Fm.holds (stOf n S R) φ (envL [x, y, z, u]))) ∧ EverP F G kb (stOf n S R) w w' := by
  have hbel0 : Below w.heap.size w (w.alloc (.cells #[.int .i64 0, .int .i64 0, .int .i64 0, .int .i64 0] 146)) := (Below.refl w.heap.size w).alloc (Nat.le_refl _) _
  have hbel : Below w.heap.size w (w.alloc (.cells #[.int .i64 (x : Int), .int .i64 (y : Int), .int .i64 (z : Int), .int .i64 (u : Int)] 146)) := (Below.refl w.heap.size w).alloc (Nat.le_refl _) _
  have cn := copy_intsO (w.alloc (.cells #[.int .i64 0, .int .i64 0, .int .i64 0, .int .i64 0] 146)) w.heap.size g o cap [.int .i64 (x : Int), .int .i64 (y : Int), .int .i64 (z : Int), .int .i64 (u : Int)] (by simp)
    (fun j v h => by
      rcases j with _ | _ | _ | _ | j
      · simp at h; subst h
        exact (hbel0.cell (World.block_lt_of_cell? w _ g0)).trans g0
      · simp at h; subst h
        exact (hbel0.cell (World.block_lt_of_cell? w _ g1)).trans g1
      · simp at h; subst h
        exact (hbel0.cell (World.block_lt_of_cell? w _ g2)).trans g2
      · simp at h; subst h
        exact (hbel0.cell (World.block_lt_of_cell? w _ g3)).trans g3
      · simp at h) (fresh4 w).1 (fresh4 w).2 (fun v hv => by simp at hv; rcases hv with rfl | rfl | rfl | rfl <;> rfl)
  have HC : Hid (Calls Tryz.prog 115 #[ptrV hb, ptrV p, .agg #[.int .i64 (x : Int), .int .i64 (y : Int), .int .i64 (z : Int), .int .i64 (u : Int)]] (w.alloc (.cells #[.int .i64 (x : Int), .int .i64 (y : Int), .int .i64 (z : Int), .int .i64 (u : Int)] 146)) fun en w' => en = .returned (.bool (Fm.holds (stOf n S R) φ (envL [x, y, z, u]))) ∧ EverP F G kb (stOf n S R) (w.alloc (.cells #[.int .i64 (x : Int), .int .i64 (y : Int), .int .i64 (z : Int), .int .i64 (u : Int)] 146)) w') :=
    true_any φ F G _ hb kb n S R p (envL [x, y, z, u]) (hB.below hbel) (hT.below hbel) (envL_lt (by omega) (by
      intro j hj
      rcases j with _ | _ | _ | _ | j
      · exact hx
      · exact hy
      · exact hz
      · exact hu
      · simp at hj; omega))
  have HE := Lib.hid (EverP.of_below hB.memo hbel)
  clear hB hT hbel hbel0 g0 g1 g2 g3
  unfold ptrV at HC
  unfold ptrV
  simp only [World.setCells, List.length_cons, List.length_nil] at cn
  go_enter Tryz.func62, Tryz.ntmps62
  go_wp2_with fail
  refine HC.out.mono ?_; rintro _ w1 ⟨rfl, hev⟩
  have HEND := Lib.hid (HE.out.then (fun b hb => .inl hb) hev)
  clear hev
  go_wp2_with fail
  go_ret
  exact ⟨rfl, HEND.out⟩
/-- Whether a text is a formula that is true of elements, and whether it is a formula. -/
def holF (f : ByteArray) (a : Gs.St) (e : Fm.Env) : Bool × Bool :=
  match readB f with
  | none => (false, false)
  | some φ => (Fm.holds a φ e, true)
theorem four_of {L : List Nat} (h : L.length = 4) : ∃ x y z u, L = [x, y, z, u] := by
  match L, h with
  | [x, y, z, u], _ => exact ⟨x, y, z, u, rfl⟩
set_option maxHeartbeats 1000000 in
theorem implHoldsAt4 (f : ByteArray) (hf : f.size ≤ 9223372036854775807) (n : Nat) (S R : ByteArray) (hv : validB n S R = true) (L : List Nat) (hl : L.length = 4) (hL : ∀ j, j < L.length → L.getD j 0 < n) (v : Value) (w : World) (hat : NumsAt w v L) :
    Calls Tryz.prog 43 #[strV n S R, .string f, v] w fun en w' => en = .returned (.tuple #[.bool (holF f (stOf n S R) (envL L)).1, .bool (holF f (stOf n S R) (envL L)).2]) ∧ Below w.heap.size w w' := by
  obtain ⟨h1, h8, hS, hR, _, _⟩ := valid_is hv
  have HIS : Hid (∀ w, Calls Tryz.prog 58 #[strV n S R] w fun e w' => e = .returned (.bool true) ∧ Below w.heap.size w w') := fun w => by
    have := isStructure_any n S R w (by omega) (by rw [hR]; have := Nat.mul_le_mul h8 h8; omega)
    rw [hv] at this
    exact this
  have HAE : Hid (∀ w', Below w.heap.size w w' → Calls Tryz.prog 98 #[strV n S R, v] w' fun en w2 => en = .returned (.bool true) ∧ Below w'.heap.size w' w2) := fun w' hb => areElements_all n S R L v w' (hat.below hb) hL h8
  have HNH := Lib.hid (fun F w hF => newHolder_any n S R hv F w hF)
  have HB : Hid (SBlk (boxS w n S R) w.heap.size n S R ∧ Below w.heap.size w (boxS w n S R)) := ⟨boxS_SBlk _ _ _ _, boxS_below _ _ _ _⟩
  obtain ⟨a, cap, rfl, l1, l2, l3⟩ := hat.view
  obtain ⟨g, o, rfl, hg, hcc⟩ := l3 (by omega)
  obtain ⟨x, y, z, u, rfl⟩ := four_of hl
  have hx : x < n := hL 0 (by simp)
  have hy : y < n := hL 1 (by simp)
  have hz : z < n := hL 2 (by simp)
  have hu : u < n := hL 3 (by simp)
  have HCC : Hid (∀ w', Below w.heap.size w w' → w'.cell? ⟨g, o, none⟩ = some (.int .i64 (x : Int)) ∧ w'.cell? ⟨g, o + 1, none⟩ = some (.int .i64 (y : Int)) ∧ w'.cell? ⟨g, o + 2, none⟩ = some (.int .i64 (z : Int)) ∧ w'.cell? ⟨g, o + 3, none⟩ = some (.int .i64 (u : Int))) := fun w' hb =>
    ⟨(hb.cell (p := ⟨g, o, none⟩) hg).trans (hcc 0 (by simp)), (hb.cell (p := ⟨g, o + 1, none⟩) hg).trans (hcc 1 (by simp)), (hb.cell (p := ⟨g, o + 2, none⟩) hg).trans (hcc 2 (by simp)), (hb.cell (p := ⟨g, o + 3, none⟩) hg).trans (hcc 3 (by simp))⟩
  have HHN : Hid (∀ (φ : Fm.T) (F G : Nat → Prop) (w' : World) (hb kb p : Nat), Below w.heap.size w w' → Base F G w' hb kb n S R → Tree F w' φ p → Calls Tryz.prog 62 #[ptrV hb, ptrV p, .slice (some ⟨g, o, none⟩) 4 cap] w' fun en w2 => en = .returned (.bool (Fm.holds (stOf n S R) φ (envL [x, y, z, u]))) ∧ EverP F G kb (stOf n S R) w' w2) :=
    fun φ F G w' hb kb p hbel hB hT => by
      obtain ⟨q0, q1, q2, q3⟩ := HCC.out w' hbel
      exact holds_four φ F G w' hb kb n S R p g o cap x y z u hB hT hx hy hz hu q0 q1 q2 q3
  simp only [List.length_cons, List.length_nil] at HAE l1 ⊢
  clear hat hcc l3 hL hx hy hz hu
  unfold maxLen at l2
  generalize envL [x, y, z, u] = ev at *
  obtain ⟨W, hW⟩ : ∃ W, boxS w n S R = W := ⟨_, rfl⟩
  rw [hW] at HB
  unfold boxS at hW
  obtain ⟨x3, hx3⟩ : ∃ x, w.heap.size = x := ⟨_, rfl⟩
  rw [hx3] at HB
  have HX3 := Lib.hid hx3
  have HW := Lib.hid hW
  clear hW hx3
  unfold strV at HIS HAE HNH
  unfold strV
  go_enter Tryz.func43, Tryz.ntmps43
  go_upto_region 1 with fail
  rw [HW.out, HX3.out]
  go_wp2_with fail
  refine (parseFormula_any f _ hf).mono ?_
  rintro en w2 ⟨hb2, hor⟩
  have HB2 : Hid (SBlk w2 x3 n S R ∧ Below w.heap.size w w2) := ⟨HB.out.1.below hb2 HB.out.1.cells.2.2.2.2.2.2, (by rw [HX3.out]; exact HB.out.2.trans (hb2.mono (by have := HB.out.2.size; rw [HX3.out] at this; exact this)))⟩
  clear hb2
  rcases hor with ⟨hr, rfl⟩ | ⟨φ, p, hr, rfl, ht⟩
  · have HI : Hid (holF f (stOf n S R) ev = (false, false)) := by show _ = _; unfold holF; rw [hr]
    clear hr
    go_wp2_with fail
    go_ret2
    exact ⟨ret_bb (by rw [HI.out]) (by rw [HI.out]), HB2.out.2⟩
  · have HI : Hid (holF f (stOf n S R) ev = (Fm.holds (stOf n S R) φ ev, true)) := by show _ = _; unfold holF; rw [hr]
    clear hr
    have HT := Lib.hid ht
    clear ht
    have s0 := HB2.out.1.cells.1
    have s1 := HB2.out.1.cells.2.1
    have s2 := HB2.out.1.cells.2.2.1
    unfold ptrV
    go_wp2_with fail
    refine (HIS.out _).mono ?_; rintro _ w3 ⟨rfl, hb3⟩
    have HB3 : Hid (SBlk w3 x3 n S R ∧ Below w.heap.size w w3) := ⟨HB2.out.1.below hb3 HB2.out.1.cells.2.2.2.2.2.2, HB2.out.2.trans (hb3.mono HB2.out.2.size)⟩
    have HT3 := Lib.hid (HT.out.below hb3)
    clear s0 s1 s2 hb3
    have s0 := HB3.out.1.cells.1
    have s1 := HB3.out.1.cells.2.1
    have s2 := HB3.out.1.cells.2.2.1
    go_wp2_with fail
    refine (HAE.out _ HB3.out.2).mono ?_; rintro _ w4 ⟨rfl, hb4⟩
    have HB4 : Hid (SBlk w4 x3 n S R ∧ Below w.heap.size w w4) := ⟨HB3.out.1.below hb4 HB3.out.1.cells.2.2.2.2.2.2, HB3.out.2.trans (hb4.mono HB3.out.2.size)⟩
    have HT4 := Lib.hid (HT3.out.below hb4)
    clear s0 s1 s2 hb4
    have s0 := HB4.out.1.cells.1
    have s1 := HB4.out.1.cells.2.1
    have s2 := HB4.out.1.cells.2.2.1
    obtain ⟨v, u, qs, nd, _⟩ := HT4.out.node
    have c3 := nd.cells.2.2.2.1
    have hfl := Fm.free_lt φ
    have HTI := Lib.hid HT4.out.tight
    clear nd
    have HHN2 := Lib.hid (HHN.out φ)
    generalize Fm.free φ = fr at *
    generalize Fm.holds (stOf n S R) φ ev = tr at *
    have hfr : ((fr : Int) / 16) = 0 := by omega
    go_wp2_with fail
    refine (HNH.out (fun b => W.heap.size ≤ b ∧ b < w4.heap.size) w4 (fun b hb => hb.2)).mono ?_
    rintro _ w5 ⟨hb, kb, rfl, hkb, hbase, hb5⟩
    have HBS := Lib.hid hbase
    have HT5 := Lib.hid ((HTI.out.below hb5).mono (F' := fun b => (W.heap.size ≤ b ∧ b < w4.heap.size) ∨ b = hb) (fun b h => .inl h))
    have HB5 : Hid (Below w.heap.size w w5) := HB4.out.2.trans (hb5.mono HB4.out.2.size)
    have HKB : Hid (w.heap.size ≤ kb) := Nat.le_trans HB4.out.2.size hkb
    clear s0 s1 s2 c3 hbase hb5 hkb
    have HCC2 := HHN2.out _ _ _ _ _ _ HB5.out HBS.out HT5.out
    unfold ptrV at HCC2
    have HCD := Lib.hid HCC2
    clear HCC2
    unfold ptrV
    go_wp2_with fail
    refine HCD.out.mono ?_; rintro _ w6 ⟨rfl, hev⟩
    have HEND : Hid (Below w.heap.size w w6) := HB5.out.trans (hev.off.below HB5.out.size (fun b hb => by rw [hb]; exact HKB.out))
    clear hev
    go_wp2_with fail
    go_ret2
    exact ⟨ret_bb (by rw [HI.out]) (by rw [HI.out]), HEND.out⟩
end Go.Proofs.YtjepegkbbbebkaaGreatDoor
