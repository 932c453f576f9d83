/- Contracts of the program's functions and what they compute: part 22. Conditions: those that each theorem states. -/
import Derived.Test.YtdcnpjekmnlgjaaGreatDoorP56n6
import Derived.Test.YtdcnpjekmnlgjaaGreatDoorP56n13
import Derived.Test.YtdcnpjekmnlgjaaGreatDoorP56n19
import Derived.Test.YtdcnpjekmnlgjaaGreatDoorP56n21
import Derived.Laws.IdiomCopy
namespace Go.Proofs.YtdcnpjekmnlgjaaGreatDoor
open Go.RowKit
set_option linter.unusedVariables false
set_option maxRecDepth 100000
theorem new_holder_map (w : World) : (Instr.makeMap 80 none).run Tryz.prog w = .ok (.map (some w.heap.size)) (w.alloc (.map #[] 0)) := by kernel_rfl
theorem copy_nil (w : World) (x : Nat) : (Builtin.copy_ #[54, 54] 3 #[.slice (some ⟨x, 0, none⟩) 4 4, .slice none 0 0]).run Tryz.prog w = .ok (.int .i64 0) w := by kernel_rfl
theorem newHolder_any (n : Nat) (S R : ByteArray) (hv : validB n S R = true) (F : Nat → Prop) (w : World) (hF : ∀ b, F b → b < w.heap.size) :
    Calls Tryz.prog 21 #[strV n S R] w fun en w' => ∃ hb kb, en = .returned (ptrV hb) ∧ w.heap.size ≤ kb ∧ Base (fun b => F b ∨ b = hb) (fun b => b = kb) w' hb kb n S R ∧ Below w.heap.size w w' := by
  obtain ⟨h1, h8, hS, hR, _, _⟩ := valid_is hv
  have HF := Lib.hid hF
  clear hF
  unfold strV
  have HB : Hid (Base (fun b => F b ∨ b = w.heap.size + 2) (fun b => b = w.heap.size + 1) (((w.alloc (.cells #[.int .i64 (n : Int), .string S, .string R] 24)).alloc (.map #[] 0)).alloc (.cells #[.int .i64 (n : Int), .string S, .string R, .map (some (w.heap.size + 1))] 82)) (w.heap.size + 2) (w.heap.size + 1) n S R ∧ Below w.heap.size w (((w.alloc (.cells #[.int .i64 (n : Int), .string S, .string R] 24)).alloc (.map #[] 0)).alloc (.cells #[.int .i64 (n : Int), .string S, .string R, .map (some (w.heap.size + 1))] 82))) := by
    refine ⟨⟨?_, .inr rfl, ⟨rfl, ?_, ?_, ?_, #[], 0, ?_, fun x hx => by simp at hx, fun x hx => by simp at hx⟩, hS, hR, h1, h8⟩, (((Below.refl w.heap.size w).alloc (Nat.le_refl _) _).alloc (by simp) _).alloc (by simp; omega) _⟩
    · have := heap_alloc_new ((w.alloc (.cells #[.int .i64 (n : Int), .string S, .string R] 24)).alloc (.map #[] 0)) (.cells #[.int .i64 (n : Int), .string S, .string R, .map (some (w.heap.size + 1))] 82)
      simpa [HoldAt] using this
    · rintro b rfl; simp
    · rintro b (hb | rfl)
      · have := HF.out b hb; simp; omega
      · simp
    · rintro b (hb | rfl) h
      · have := HF.out b hb; omega
      · omega
    · have h0 := heap_alloc_new (w.alloc (.cells #[.int .i64 (n : Int), .string S, .string R] 24)) (.map #[] 0)
      have h1 := Below.block ((Below.refl ((w.alloc (.cells #[.int .i64 (n : Int), .string S, .string R] 24)).alloc (.map #[] 0)).heap.size ((w.alloc (.cells #[.int .i64 (n : Int), .string S, .string R] 24)).alloc (.map #[] 0))).alloc (Nat.le_refl _) (.cells #[.int .i64 (n : Int), .string S, .string R, .map (some (w.heap.size + 1))] 82)) (w.heap.size + 1) (by simp)
      rw [h1]
      simpa using h0
  have nm := new_holder_map (w.alloc (.cells #[.int .i64 (n : Int), .string S, .string R] 24))
  go_enter Tryz.func21, Tryz.ntmps21
  go_wp2_with fail
  go_ret
  exact ⟨_, _, rfl, by omega, HB.out.1, HB.out.2⟩
/-- A list of no elements. -/
theorem holds_nil (φ : Fm.T) (F G : Nat → Prop) (w : World) (hb kb n : Nat) (S R : ByteArray) (p : Nat) (hB : Base F G w hb kb n S R) (hT : Tree F w φ p) :
    Calls Tryz.prog 24 #[ptrV hb, ptrV p, .slice none 0 0] w fun en w' => en = .returned (.bool (Fm.holds (stOf n S R) φ (fun _ => 0))) ∧ EverP F G kb (stOf n S R) w w' := by
  have hbel : Below w.heap.size w (w.alloc (.cells #[.int .i64 0, .int .i64 0, .int .i64 0, .int .i64 0] 60)) := (Below.refl w.heap.size w).alloc (Nat.le_refl _) _
  have HC := Lib.hid (true_any φ F G _ hb kb n S R p (fun _ => 0) (hB.below hbel) (hT.below hbel) (fun _ => by have := hB.n1; omega))
  have HE := Lib.hid (EverP.of_below hB.memo hbel)
  clear hB hT hbel
  unfold ptrV envV at HC
  unfold ptrV
  have cn := copy_nil (w.alloc (.cells #[.int .i64 0, .int .i64 0, .int .i64 0, .int .i64 0] 60)) w.heap.size
  go_enter Tryz.func24, Tryz.ntmps24
  go_wp2_with fail
  refine HC.out.mono ?_; rintro _ w1 ⟨rfl, hev⟩
  have HEND := Lib.hid (HE.out.then (fun b hb => .inl hb) hev)
  clear hev
  go_wp2_with fail
  go_ret
  exact ⟨rfl, HEND.out⟩
theorem index_nil (v : Value) (w : World) : Calls Tryz.prog 127 #[.slice none 0 0, v] w fun en w' => en = .returned (.int .i64 (-1)) ∧ w = w' := by
  go_enter Tryz.func127, Tryz.ntmps127
  go_wp2_with fail
  go_loopw [8, 5] (fun i _ wr => i = .int .i64 0 ∧ wr = w) (fun _ _ _ => 0)
  case atStart => exact ⟨rfl, rfl⟩
  case round =>
    obtain ⟨rfl, rfl⟩ := hrel
    go_wp2_with fail
    go_ret
    exact ⟨rfl, rfl⟩
theorem contains_nil (v : Value) (w : World) : Calls Tryz.prog 84 #[.slice none 0 0, v] w fun en w' => en = .returned (.bool false) ∧ w = w' := by
  go_enter Tryz.func84, Tryz.ntmps84
  go_wp2_with fail
  refine (index_nil _ _).mono ?_; rintro _ _ ⟨rfl, rfl⟩
  go_wp2_with fail
  go_ret
  exact ⟨rfl, rfl⟩
theorem areElements_nil (n : Nat) (S R : ByteArray) (w : World) : Calls Tryz.prog 57 #[strV n S R, .slice none 0 0] w fun en w' => en = .returned (.bool true) ∧ Below w.heap.size w w' := by
  unfold strV
  have HB : Hid (Below w.heap.size w (w.alloc (.cells #[.int .i64 (n : Int), .string S, .string R] 24))) := (Below.refl w.heap.size w).alloc (Nat.le_refl _) _
  go_enter Tryz.func57, Tryz.ntmps57
  go_wp2_with fail
  refine (contains_nil _ _).mono ?_; rintro _ _ ⟨rfl, rfl⟩
  go_wp2_with fail
  go_ret
  exact ⟨rfl, HB.out⟩
end Go.Proofs.YtdcnpjekmnlgjaaGreatDoor
namespace Go.Proofs.YtdcnpjekmnlgjaaGreatDoor
open Go.RowKit
set_option linter.unusedVariables false
set_option maxRecDepth 100000
/-- The elements x and y for the first two variables. -/
def env2 (x y : Nat) : Fm.Env := fun i => if i = 0 then x else if i = 1 then y else 0
theorem env2_V (x y : Nat) : envV (env2 x y) = .agg #[.int .i64 (x : Int), .int .i64 (y : Int), .int .i64 0, .int .i64 0] := rfl
theorem env2_lt {x y n : Nat} (hx : x < n) (hy : y < n) : ∀ v, env2 x y v < n := fun v => by
  unfold env2
  split
  · exact hx
  · split
    · exact hy
    · omega
theorem intSize : (Tryz.prog.info? 3).map (·.size) = some 1 := by kernel_rfl
theorem copy_ints (w : World) (b g : Nat) (cs : List Value) (hn : cs.length ≤ 4) (hsrc : ∀ j v, cs[j]? = some v → w.cell? ⟨g, j, none⟩ = some v) (hc : ∀ j, j < 4 → (w.cell? ⟨b, j, none⟩).isSome = true) (hf : ∀ j, j < 4 → w.frozen? ⟨b, j, none⟩ = false) (h1 : ∀ v ∈ cs, v.oneCell' = true) :
    (Builtin.copy_ #[54, 54] 3 #[.slice (some ⟨b, 0, none⟩) 4 4, .slice (some ⟨g, 0, none⟩) cs.length cs.length]).run Tryz.prog w = .ok (goInt cs.length) (w.setCells b 0 cs) :=
  run_copy_cells w 54 54 3 3 b 0 4 4 ⟨g, 0, none⟩ cs.length cs.length cs Tryz.underlying54 intSize (by simp [Nat.min_def]; omega) (fun j v h => by
    have := hsrc j v h
    rcases j with _ | j
    · exact this
    · simpa [Addr.add] using this) (fun j hj => by simpa using hc j (by omega)) (fun j hj => by simpa using hf j (by omega)) h1
theorem fresh4 (w : World) : (∀ j, j < 4 → ((w.alloc (.cells #[.int .i64 0, .int .i64 0, .int .i64 0, .int .i64 0] 60)).cell? ⟨w.heap.size, j, none⟩).isSome = true) ∧ ∀ j, j < 4 → (w.alloc (.cells #[.int .i64 0, .int .i64 0, .int .i64 0, .int .i64 0] 60)).frozen? ⟨w.heap.size, j, none⟩ = false := by
  have h := heap_alloc_new w (.cells #[.int .i64 0, .int .i64 0, .int .i64 0, .int .i64 0] 60)
  constructor
  · intro j hj
    unfold World.cell?
    rw [h]
    simp; omega
  · intro j hj
    unfold World.frozen?
    rw [h]
    simp
theorem holds_one (φ : Fm.T) (F G : Nat → Prop) (w : World) (hb kb n : Nat) (S R : ByteArray) (p g x : Nat) (hB : Base F G w hb kb n S R) (hT : Tree F w φ p) (hx : x < n) (hg : w.cell? ⟨g, 0, none⟩ = some (.int .i64 (x : Int))) :
    Calls Tryz.prog 24 #[ptrV hb, ptrV p, .slice (some ⟨g, 0, none⟩) 1 1] w fun en w' => en = .returned (.bool (Fm.holds (stOf n S R) φ (env2 x 0))) ∧ EverP F G kb (stOf n S R) w w' := by
  have hbel0 : Below w.heap.size w (w.alloc (.cells #[.int .i64 0, .int .i64 0, .int .i64 0, .int .i64 0] 60)) := (Below.refl w.heap.size w).alloc (Nat.le_refl _) _
  have hbel : Below w.heap.size w (w.alloc (.cells #[.int .i64 (x : Int), .int .i64 0, .int .i64 0, .int .i64 0] 60)) := (Below.refl w.heap.size w).alloc (Nat.le_refl _) _
  have cn := copy_ints (w.alloc (.cells #[.int .i64 0, .int .i64 0, .int .i64 0, .int .i64 0] 60)) w.heap.size g [.int .i64 (x : Int)] (by simp)
    (fun j v h => by
      rcases j with _ | j
      · simp at h; subst h
        exact (hbel0.cell (World.block_lt_of_cell? w _ hg)).trans hg
      · simp at h) (fresh4 w).1 (fresh4 w).2 (fun v hv => by simp at hv; subst hv; rfl)
  have HC : Hid (Calls Tryz.prog 46 #[ptrV hb, ptrV p, .agg #[.int .i64 (x : Int), .int .i64 0, .int .i64 0, .int .i64 0]] (w.alloc (.cells #[.int .i64 (x : Int), .int .i64 0, .int .i64 0, .int .i64 0] 60)) fun en w' => en = .returned (.bool (Fm.holds (stOf n S R) φ (env2 x 0))) ∧ EverP F G kb (stOf n S R) (w.alloc (.cells #[.int .i64 (x : Int), .int .i64 0, .int .i64 0, .int .i64 0] 60)) w') :=
    true_any φ F G _ hb kb n S R p (env2 x 0) (hB.below hbel) (hT.below hbel) (env2_lt hx (by have := hB.n1; omega))
  have HE := Lib.hid (EverP.of_below hB.memo hbel)
  clear hB hT hbel hbel0
  unfold ptrV at HC
  unfold ptrV
  simp only [World.setCells, List.length_cons, List.length_nil] at cn
  go_enter Tryz.func24, Tryz.ntmps24
  go_wp2_with fail
  refine HC.out.mono ?_; rintro _ w1 ⟨rfl, hev⟩
  have HEND := Lib.hid (HE.out.then (fun b hb => .inl hb) hev)
  clear hev
  go_wp2_with fail
  go_ret
  exact ⟨rfl, HEND.out⟩
theorem holds_two (φ : Fm.T) (F G : Nat → Prop) (w : World) (hb kb n : Nat) (S R : ByteArray) (p g x y : Nat) (hB : Base F G w hb kb n S R) (hT : Tree F w φ p) (hx : x < n) (hy : y < n) (hg : w.cell? ⟨g, 0, none⟩ = some (.int .i64 (x : Int))) (hg1 : w.cell? ⟨g, 1, none⟩ = some (.int .i64 (y : Int))) :
    Calls Tryz.prog 24 #[ptrV hb, ptrV p, .slice (some ⟨g, 0, none⟩) 2 2] w fun en w' => en = .returned (.bool (Fm.holds (stOf n S R) φ (env2 x y))) ∧ EverP F G kb (stOf n S R) w w' := by
  have hbel0 : Below w.heap.size w (w.alloc (.cells #[.int .i64 0, .int .i64 0, .int .i64 0, .int .i64 0] 60)) := (Below.refl w.heap.size w).alloc (Nat.le_refl _) _
  have hbel : Below w.heap.size w (w.alloc (.cells #[.int .i64 (x : Int), .int .i64 (y : Int), .int .i64 0, .int .i64 0] 60)) := (Below.refl w.heap.size w).alloc (Nat.le_refl _) _
  have cn := copy_ints (w.alloc (.cells #[.int .i64 0, .int .i64 0, .int .i64 0, .int .i64 0] 60)) w.heap.size g [.int .i64 (x : Int), .int .i64 (y : Int)] (by simp)
    (fun j v h => by
      rcases j with _ | j
      · simp at h; subst h
        exact (hbel0.cell (World.block_lt_of_cell? w _ hg)).trans hg
      · rcases j with _ | j
        · simp at h; subst h
          exact (hbel0.cell (World.block_lt_of_cell? w _ hg1)).trans hg1
        · simp at h) (fresh4 w).1 (fresh4 w).2 (fun v hv => by simp at hv; rcases hv with rfl | rfl <;> rfl)
  have HC : Hid (Calls Tryz.prog 46 #[ptrV hb, ptrV p, .agg #[.int .i64 (x : Int), .int .i64 (y : Int), .int .i64 0, .int .i64 0]] (w.alloc (.cells #[.int .i64 (x : Int), .int .i64 (y : Int), .int .i64 0, .int .i64 0] 60)) fun en w' => en = .returned (.bool (Fm.holds (stOf n S R) φ (env2 x y))) ∧ EverP F G kb (stOf n S R) (w.alloc (.cells #[.int .i64 (x : Int), .int .i64 (y : Int), .int .i64 0, .int .i64 0] 60)) w') :=
    true_any φ F G _ hb kb n S R p (env2 x y) (hB.below hbel) (hT.below hbel) (env2_lt hx hy)
  have HE := Lib.hid (EverP.of_below hB.memo hbel)
  clear hB hT hbel hbel0
  unfold ptrV at HC
  unfold ptrV
  simp only [World.setCells, List.length_cons, List.length_nil] at cn
  go_enter Tryz.func24, Tryz.ntmps24
  go_wp2_with fail
  refine HC.out.mono ?_; rintro _ w1 ⟨rfl, hev⟩
  have HEND := Lib.hid (HE.out.then (fun b hb => .inl hb) hev)
  clear hev
  go_wp2_with fail
  go_ret
  exact ⟨rfl, HEND.out⟩
end Go.Proofs.YtdcnpjekmnlgjaaGreatDoor
namespace Go.Proofs.YtdcnpjekmnlgjaaGreatDoor
open Go.RowKit
set_option linter.unusedVariables false
set_option maxRecDepth 100000
theorem implHoldsAt0 (f : ByteArray) (hf : f.size ≤ 9223372036854775807) (n : Nat) (S R : ByteArray) (hv : validB n S R = true) (w : World) :
    Calls Tryz.prog 34 #[strV n S R, .string f, .slice none 0 0] w fun en w' => en = .returned (.tuple #[.bool (hin f (stOf n S R)).1, .bool (hin f (stOf n S R)).2]) ∧ Below w.heap.size w w' := by
  obtain ⟨h1, h8, hS, hR, _, _⟩ := valid_is hv
  have HIS : Hid (∀ w, Calls Tryz.prog 20 #[strV n S R] w fun e w' => e = .returned (.bool true) ∧ Below w.heap.size w w') := fun w => by
    have := isStructure_any n S R w (by omega) (by rw [hR]; have := Nat.mul_le_mul h8 h8; omega)
    rw [hv] at this
    exact this
  have HAE := Lib.hid (fun w => areElements_nil n S R w)
  have HNH := Lib.hid (fun F w hF => newHolder_any n S R hv F w hF)
  have HHN := Lib.hid (fun φ F G w hb kb p hB hT => holds_nil φ F G w hb kb n S R p hB hT)
  have HB : Hid (SBlk (boxS w n S R) w.heap.size n S R ∧ Below w.heap.size w (boxS w n S R)) := ⟨boxS_SBlk _ _ _ _, boxS_below _ _ _ _⟩
  obtain ⟨W, hW⟩ : ∃ W, boxS w n S R = W := ⟨_, rfl⟩
  rw [hW] at HB
  unfold boxS at hW
  obtain ⟨x3, hx3⟩ : ∃ x, w.heap.size = x := ⟨_, rfl⟩
  rw [hx3] at HB
  have HX3 := Lib.hid hx3
  have HW := Lib.hid hW
  clear hW hx3
  unfold strV at HIS HAE HNH
  unfold strV
  go_enter Tryz.func34, Tryz.ntmps34
  go_upto_region 1 with fail
  rw [HW.out, HX3.out]
  go_wp2_with fail
  refine (parseFormula_any f _ hf).mono ?_
  rintro en w2 ⟨hb2, hor⟩
  have HB2 : Hid (SBlk w2 x3 n S R ∧ Below w.heap.size w w2) := ⟨HB.out.1.below hb2 HB.out.1.cells.2.2.2.2.2.2, (by rw [HX3.out]; exact HB.out.2.trans (hb2.mono (by have := HB.out.2.size; rw [HX3.out] at this; exact this)))⟩
  clear hb2
  rcases hor with ⟨hr, rfl⟩ | ⟨φ, p, hr, rfl, ht⟩
  · have HI : Hid (hin f (stOf n S R) = (false, false)) := by show _ = _; unfold hin; rw [hr]
    clear hr
    go_wp2_with fail
    go_ret2
    exact ⟨ret_bb (by rw [HI.out]) (by rw [HI.out]), HB2.out.2⟩
  · have HI : Hid (hin f (stOf n S R) = if Fm.free φ = 0 then (Fm.holds (stOf n S R) φ (fun _ => 0), true) else (false, false)) := by show _ = _; unfold hin; rw [hr]
    clear hr
    have HT := Lib.hid ht
    clear ht
    have s0 := HB2.out.1.cells.1
    have s1 := HB2.out.1.cells.2.1
    have s2 := HB2.out.1.cells.2.2.1
    unfold ptrV
    go_wp2_with fail
    refine (HIS.out _).mono ?_; rintro _ w3 ⟨rfl, hb3⟩
    have HB3 : Hid (SBlk w3 x3 n S R ∧ Below w.heap.size w w3) := ⟨HB2.out.1.below hb3 HB2.out.1.cells.2.2.2.2.2.2, HB2.out.2.trans (hb3.mono HB2.out.2.size)⟩
    have HT3 := Lib.hid (HT.out.below hb3)
    clear s0 s1 s2 hb3
    have s0 := HB3.out.1.cells.1
    have s1 := HB3.out.1.cells.2.1
    have s2 := HB3.out.1.cells.2.2.1
    go_wp2_with fail
    refine (HAE.out _).mono ?_; rintro _ w4 ⟨rfl, hb4⟩
    have HB4 : Hid (SBlk w4 x3 n S R ∧ Below w.heap.size w w4) := ⟨HB3.out.1.below hb4 HB3.out.1.cells.2.2.2.2.2.2, HB3.out.2.trans (hb4.mono HB3.out.2.size)⟩
    have HT4 := Lib.hid (HT3.out.below hb4)
    clear s0 s1 s2 hb4
    have s0 := HB4.out.1.cells.1
    have s1 := HB4.out.1.cells.2.1
    have s2 := HB4.out.1.cells.2.2.1
    obtain ⟨v, u, qs, nd, _⟩ := HT4.out.node
    have c3 := nd.cells.2.2.2.1
    have hfl := Fm.free_lt φ
    have HTI := Lib.hid HT4.out.tight
    clear nd
    have HHN2 := Lib.hid (HHN.out φ)
    generalize Fm.free φ = fr at *
    generalize Fm.holds (stOf n S R) φ (fun _ => 0) = tr at *
    by_cases h0 : fr = 0
    · subst h0
      have HI2 : Hid (hin f (stOf n S R) = (tr, true)) := HI.out.trans (if_pos rfl)
      go_wp2_with fail
      refine (HNH.out (fun b => W.heap.size ≤ b ∧ b < w4.heap.size) w4 (fun b hb => hb.2)).mono ?_
      rintro _ w5 ⟨hb, kb, rfl, hkb, hbase, hb5⟩
      have HBS := Lib.hid hbase
      have HT5 := Lib.hid ((HTI.out.below hb5).mono (F' := fun b => (W.heap.size ≤ b ∧ b < w4.heap.size) ∨ b = hb) (fun b h => .inl h))
      have HB5 : Hid (Below w.heap.size w w5) := HB4.out.2.trans (hb5.mono HB4.out.2.size)
      have HKB : Hid (w.heap.size ≤ kb) := Nat.le_trans HB4.out.2.size hkb
      clear s0 s1 s2 c3 hbase hb5 hkb
      have HCC := HHN2.out _ _ _ _ _ _ HBS.out HT5.out
      unfold ptrV at HCC
      have HCD := Lib.hid HCC
      clear HCC
      unfold ptrV
      go_wp2_with fail
      refine HCD.out.mono ?_; rintro _ w6 ⟨rfl, hev⟩
      have HEND : Hid (Below w.heap.size w w6) := HB5.out.trans (hev.off.below HB5.out.size (fun b hb => by rw [hb]; exact HKB.out))
      clear hev
      go_wp2_with fail
      go_ret2
      exact ⟨ret_bb (by rw [HI2.out]) (by rw [HI2.out]), HEND.out⟩
    · have HI2 : Hid (hin f (stOf n S R) = (false, false)) := HI.out.trans (if_neg h0)
      go_wp2_with fail
      go_ret2
      exact ⟨ret_bb (by rw [HI2.out]) (by rw [HI2.out]), HB4.out.2⟩
theorem implHoldsIn_any (f : ByteArray) (hf : f.size ≤ 9223372036854775807) (n : Nat) (S R : ByteArray) (hv : validB n S R = true) (w : World) :
    Calls Tryz.prog 9 #[strV n S R, .string f] w fun en w' => en = .returned (.tuple #[.bool (hin f (stOf n S R)).1, .bool (hin f (stOf n S R)).2]) ∧ Below w.heap.size w w' := by
  have HC := Lib.hid (fun w => implHoldsAt0 f hf n S R hv w)
  unfold strV at HC
  unfold strV
  go_enter Tryz.func9, Tryz.ntmps9
  go_wp2_with fail
  refine (HC.out _).mono ?_; rintro _ w1 ⟨rfl, hb1⟩
  go_wp2_with fail
  go_ret2
  refine ⟨rfl, ?_⟩
  exact Below.trans ((Below.refl w.heap.size w).alloc (Nat.le_refl _) _) (hb1.mono (by simp))
end Go.Proofs.YtdcnpjekmnlgjaaGreatDoor
namespace Go.Proofs.YtdcnpjekmnlgjaaGreatDoor
open Go.RowKit
set_option linter.unusedVariables false
set_option maxRecDepth 100000
theorem ret_str5 {a b : ByteArray} (h : a = b) : Ending.returned (.string a) = .returned (.string b) := by rw [h]
set_option maxHeartbeats 1000000 in
theorem l3Rel_any (f : ByteArray) (hf : f.size ≤ 1000000) (n : Nat) (S R : ByteArray) (hn : n ≤ 8) (hS : S.size = n) (hR : R.size = n * n) (φ : Fm.T) (hA : Fm.At f.data.toList 0 φ) (w : World) :
    Calls Tryz.prog 28 #[strV n S R, .string f] w fun en w' => en = .returned (.string (gridOf (fun x y => Fm.holds (stOf n S R) φ (env2 x y)) n)) ∧ Below w.heap.size w w' := by
  have hlt := fun x y w (hx : x < n) (hy : y < n) => l2True_any f hf n S R hn hS hR φ hA (env2 x y) (env2_lt hx hy) w
  simp only [env2_V] at hlt
  have HLT := Lib.hid hlt
  clear hlt hA hf
  have HB : Hid (SBlk (boxS w n S R) w.heap.size n S R ∧ Below w.heap.size w (boxS w n S R)) := ⟨boxS_SBlk _ _ _ _, boxS_below _ _ _ _⟩
  unfold boxS at HB
  obtain ⟨r, hr⟩ : ∃ r : Nat → Nat → Bool, (fun x y => Fm.holds (stOf n S R) φ (env2 x y)) = r := ⟨_, rfl⟩
  have HRR : Hid (∀ x y, Fm.holds (stOf n S R) φ (env2 x y) = r x y) := fun x y => by rw [← hr]
  rw [hr]
  clear hr
  unfold strV at HLT
  unfold strV
  go_enter Tryz.func28, Tryz.ntmps28
  go_wp2_with fail
  go_loopw [6, 5, 7] (fun i o _ wr => ∃ x : Nat, x ≤ n ∧ i = .int .i64 (x : Int) ∧ ∃ out : ByteArray, o = .string out ∧ Hid (out = bitsOf (fun k => r (k / n) (k % n)) (x * n)) ∧ Hid (SBlk wr w.heap.size n S R ∧ Below w.heap.size w wr)) (fun i _ _ _ => n - (intOf i).toNat)
  case atStart => exact ⟨0, by omega, rfl, _, rfl, by show _ = _; simp [bitsOf_zero]; rfl, HB.out⟩
  case round =>
    obtain ⟨x, hx, rfl, out, rfl, HO, HI⟩ := hrel
    have s0 := HI.out.1.cells.1
    by_cases hxn : x < n
    · go_wp2_with fail
      clear s0
      go_loopw [7, 5] (fun j o wr => ∃ y : Nat, y ≤ n ∧ j = .int .i64 (y : Int) ∧ ∃ out : ByteArray, o = .string out ∧ Hid (out = bitsOf (fun k => r (k / n) (k % n)) (x * n + y)) ∧ Hid (SBlk wr w.heap.size n S R ∧ Below w.heap.size w wr)) (fun j _ _ => n - (intOf j).toNat)
      case atStart => exact ⟨0, by omega, rfl, out, rfl, HO, HI⟩
      case round =>
        obtain ⟨y, hy, rfl, out2, rfl, HO2, HI2⟩ := hrel
        have s0 := HI2.out.1.cells.1
        have s1 := HI2.out.1.cells.2.1
        have s2 := HI2.out.1.cells.2.2.1
        by_cases hyn : y < n
        · have hxy : x * n + y ≤ 64 := by
            have h1 : x * n ≤ 7 * 8 := Nat.mul_le_mul (by omega) hn
            omega
          have z0 : out2.size ≤ 64 := by rw [HO2.out, bitsOf_size]; exact hxy
          have z1 : (bitS (r x y)).size ≤ 1 := Nat.le_refl _
          have HG : Hid (out2 ++ bitS (r x y) = bitsOf (fun k => r (k / n) (k % n)) (x * n + (y + 1))) := by
            show _ = bitsOf (fun k => r (k / n) (k % n)) (x * n + y + 1)
            rw [bitsOf_succ, HO2.out]
            exact congrArg (fun b => bitsOf (fun k => r (k / n) (k % n)) (x * n + y) ++ bitS b) (grid_at (r := r) (x := x) hyn).symm
          have HL1 := Lib.hid (fun w => HLT.out x y w hxn hyn)
          rw [HRR.out x y] at HL1
          clear hxy
          go_wp2_with fail
          refine (HL1.out _).mono ?_; rintro _ w1 ⟨rfl, hb1⟩
          have HI3 : Hid (SBlk w1 w.heap.size n S R ∧ Below w.heap.size w w1) := ⟨HI2.out.1.below hb1 HI2.out.1.cells.2.2.2.2.2.2, HI2.out.2.trans (hb1.mono HI2.out.2.size)⟩
          clear hb1 s0 s1 s2
          generalize hbit : r x y = bt at *
          clear hbit
          go_wp2_with fail
          refine (l1Bit_any bt _).mono ?_; rintro _ w2 ⟨rfl, rfl⟩
          go_wp2_with fail
          go_roundw
          case rel => exact ⟨y + 1, by omega, by go_num, _, rfl, HG.out, HI3.out⟩
          case measure => simp [intOf]; omega
        · have HO3 : Hid (out2 = bitsOf (fun k => r (k / n) (k % n)) ((x + 1) * n)) := by
            have h := HO2.out
            rw [show x * n + y = (x + 1) * n by rw [Nat.add_mul, Nat.one_mul]; omega] at h
            exact h
          go_wp2_with fail
          go_roundw
          case rel => exact ⟨x + 1, by omega, by go_num, out2, rfl, HO3.out, HI2.out⟩
          case measure => simp [intOf]; omega
    · have HE : Hid (out = gridOf r n) := by
        have h := HO.out
        rw [show x = n by omega] at h
        exact h
      go_wp2_with fail
      go_ret
      exact ⟨ret_str5 HE.out, HI.out.2⟩
end Go.Proofs.YtdcnpjekmnlgjaaGreatDoor
