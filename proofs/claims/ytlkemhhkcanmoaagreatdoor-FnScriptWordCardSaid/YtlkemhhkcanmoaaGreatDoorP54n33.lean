/- Contracts of the program's functions and what they compute: part 33. Conditions: those that each theorem states. -/
import Derived.Test.YtlkemhhkcanmoaaGreatDoorP54n8
import Derived.Test.YtlkemhhkcanmoaaGreatDoorP54n17
import Derived.Test.YtlkemhhkcanmoaaGreatDoorP54n30
import Derived.Test.YtlkemhhkcanmoaaGreatDoorP54n32
import Derived.Laws.IdiomCopy
namespace Go.Proofs.YtlkemhhkcanmoaaGreatDoor
open Go.RowKit
set_option linter.unusedVariables false
set_option maxRecDepth 100000
theorem new_holder_map (w : World) : (Instr.makeMap 81 none).run Tryz.prog w = .ok (.map (some w.heap.size)) (w.alloc (.map #[] 0)) := by kernel_rfl
theorem copy_nil (w : World) (x : Nat) : (Builtin.copy_ #[31, 31] 3 #[.slice (some ⟨x, 0, none⟩) 4 4, .slice none 0 0]).run Tryz.prog w = .ok (.int .i64 0) w := by kernel_rfl
theorem newHolder_any (n : Nat) (S R : ByteArray) (hv : validB n S R = true) (F : Nat → Prop) (w : World) (hF : ∀ b, F b → b < w.heap.size) :
    Calls Tryz.prog 28 #[strV n S R] w fun en w' => ∃ hb kb, en = .returned (ptrV hb) ∧ w.heap.size ≤ kb ∧ Base (fun b => F b ∨ b = hb) (fun b => b = kb) w' hb kb n S R ∧ Below w.heap.size w w' := by
  obtain ⟨h1, h8, hS, hR, _, _⟩ := valid_is hv
  have HF := Lib.hid hF
  clear hF
  unfold strV
  have HB : Hid (Base (fun b => F b ∨ b = w.heap.size + 2) (fun b => b = w.heap.size + 1) (((w.alloc (.cells #[.int .i64 (n : Int), .string S, .string R] 28)).alloc (.map #[] 0)).alloc (.cells #[.int .i64 (n : Int), .string S, .string R, .map (some (w.heap.size + 1))] 83)) (w.heap.size + 2) (w.heap.size + 1) n S R ∧ Below w.heap.size w (((w.alloc (.cells #[.int .i64 (n : Int), .string S, .string R] 28)).alloc (.map #[] 0)).alloc (.cells #[.int .i64 (n : Int), .string S, .string R, .map (some (w.heap.size + 1))] 83))) := by
    refine ⟨⟨?_, .inr rfl, ⟨rfl, ?_, ?_, ?_, #[], 0, ?_, fun x hx => by simp at hx, fun x hx => by simp at hx⟩, hS, hR, h1, h8⟩, (((Below.refl w.heap.size w).alloc (Nat.le_refl _) _).alloc (by simp) _).alloc (by simp; omega) _⟩
    · have := heap_alloc_new ((w.alloc (.cells #[.int .i64 (n : Int), .string S, .string R] 28)).alloc (.map #[] 0)) (.cells #[.int .i64 (n : Int), .string S, .string R, .map (some (w.heap.size + 1))] 83)
      simpa [HoldAt] using this
    · rintro b rfl; simp
    · rintro b (hb | rfl)
      · have := HF.out b hb; simp; omega
      · simp
    · rintro b (hb | rfl) h
      · have := HF.out b hb; omega
      · omega
    · have h0 := heap_alloc_new (w.alloc (.cells #[.int .i64 (n : Int), .string S, .string R] 28)) (.map #[] 0)
      have h1 := Below.block ((Below.refl ((w.alloc (.cells #[.int .i64 (n : Int), .string S, .string R] 28)).alloc (.map #[] 0)).heap.size ((w.alloc (.cells #[.int .i64 (n : Int), .string S, .string R] 28)).alloc (.map #[] 0))).alloc (Nat.le_refl _) (.cells #[.int .i64 (n : Int), .string S, .string R, .map (some (w.heap.size + 1))] 83)) (w.heap.size + 1) (by simp)
      rw [h1]
      simpa using h0
  have nm := new_holder_map (w.alloc (.cells #[.int .i64 (n : Int), .string S, .string R] 28))
  go_enter Tryz.func28, Tryz.ntmps28
  go_wp2_with fail
  go_ret
  exact ⟨_, _, rfl, by omega, HB.out.1, HB.out.2⟩
/-- A list of no elements. -/
theorem holds_nil (φ : Fm.T) (F G : Nat → Prop) (w : World) (hb kb n : Nat) (S R : ByteArray) (p : Nat) (hB : Base F G w hb kb n S R) (hT : Tree F w φ p) :
    Calls Tryz.prog 29 #[ptrV hb, ptrV p, .slice none 0 0] w fun en w' => en = .returned (.bool (Fm.holds (stOf n S R) φ (fun _ => 0))) ∧ EverP F G kb (stOf n S R) w w' := by
  have hbel : Below w.heap.size w (w.alloc (.cells #[.int .i64 0, .int .i64 0, .int .i64 0, .int .i64 0] 84)) := (Below.refl w.heap.size w).alloc (Nat.le_refl _) _
  have HC := Lib.hid (true_any φ F G _ hb kb n S R p (fun _ => 0) (hB.below hbel) (hT.below hbel) (fun _ => by have := hB.n1; omega))
  have HE := Lib.hid (EverP.of_below hB.memo hbel)
  clear hB hT hbel
  unfold ptrV envV at HC
  unfold ptrV
  have cn := copy_nil (w.alloc (.cells #[.int .i64 0, .int .i64 0, .int .i64 0, .int .i64 0] 84)) w.heap.size
  go_enter Tryz.func29, Tryz.ntmps29
  go_wp2_with fail
  refine HC.out.mono ?_; rintro _ w1 ⟨rfl, hev⟩
  have HEND := Lib.hid (HE.out.then (fun b hb => .inl hb) hev)
  clear hev
  go_wp2_with fail
  go_ret
  exact ⟨rfl, HEND.out⟩
theorem index_nil (v : Value) (w : World) : Calls Tryz.prog 193 #[.slice none 0 0, v] w fun en w' => en = .returned (.int .i64 (-1)) ∧ w = w' := by
  go_enter Tryz.func193, Tryz.ntmps193
  go_wp2_with fail
  go_loopw [8, 5] (fun i _ wr => i = .int .i64 0 ∧ wr = w) (fun _ _ _ => 0)
  case atStart => exact ⟨rfl, rfl⟩
  case round =>
    obtain ⟨rfl, rfl⟩ := hrel
    go_wp2_with fail
    go_ret
    exact ⟨rfl, rfl⟩
theorem contains_nil (v : Value) (w : World) : Calls Tryz.prog 130 #[.slice none 0 0, v] w fun en w' => en = .returned (.bool false) ∧ w = w' := by
  go_enter Tryz.func130, Tryz.ntmps130
  go_wp2_with fail
  refine (index_nil _ _).mono ?_; rintro _ _ ⟨rfl, rfl⟩
  go_wp2_with fail
  go_ret
  exact ⟨rfl, rfl⟩
theorem areElements_nil (n : Nat) (S R : ByteArray) (w : World) : Calls Tryz.prog 80 #[strV n S R, .slice none 0 0] w fun en w' => en = .returned (.bool true) ∧ Below w.heap.size w w' := by
  unfold strV
  have HB : Hid (Below w.heap.size w (w.alloc (.cells #[.int .i64 (n : Int), .string S, .string R] 28))) := (Below.refl w.heap.size w).alloc (Nat.le_refl _) _
  go_enter Tryz.func80, Tryz.ntmps80
  go_wp2_with fail
  refine (contains_nil _ _).mono ?_; rintro _ _ ⟨rfl, rfl⟩
  go_wp2_with fail
  go_ret
  exact ⟨rfl, HB.out⟩
end Go.Proofs.YtlkemhhkcanmoaaGreatDoor
namespace Go.Proofs.YtlkemhhkcanmoaaGreatDoor
open Go.RowKit
set_option linter.unusedVariables false
set_option maxRecDepth 100000
/-- The elements x and y for the first two variables. -/
def env2 (x y : Nat) : Fm.Env := fun i => if i = 0 then x else if i = 1 then y else 0
theorem env2_lt {x y n : Nat} (hx : x < n) (hy : y < n) : ∀ v, env2 x y v < n := fun v => by
  unfold env2
  split
  · exact hx
  · split
    · exact hy
    · omega
theorem intSize : (Tryz.prog.info? 3).map (·.size) = some 1 := by kernel_rfl
theorem copy_ints (w : World) (b g : Nat) (cs : List Value) (hn : cs.length ≤ 4) (hsrc : ∀ j v, cs[j]? = some v → w.cell? ⟨g, j, none⟩ = some v) (hc : ∀ j, j < 4 → (w.cell? ⟨b, j, none⟩).isSome = true) (hf : ∀ j, j < 4 → w.frozen? ⟨b, j, none⟩ = false) (h1 : ∀ v ∈ cs, v.oneCell' = true) :
    (Builtin.copy_ #[31, 31] 3 #[.slice (some ⟨b, 0, none⟩) 4 4, .slice (some ⟨g, 0, none⟩) cs.length cs.length]).run Tryz.prog w = .ok (goInt cs.length) (w.setCells b 0 cs) :=
  run_copy_cells w 31 31 3 3 b 0 4 4 ⟨g, 0, none⟩ cs.length cs.length cs Tryz.underlying31 intSize (by simp [Nat.min_def]; omega) (fun j v h => by
    have := hsrc j v h
    rcases j with _ | j
    · exact this
    · simpa [Addr.add] using this) (fun j hj => by simpa using hc j (by omega)) (fun j hj => by simpa using hf j (by omega)) h1
theorem fresh4 (w : World) : (∀ j, j < 4 → ((w.alloc (.cells #[.int .i64 0, .int .i64 0, .int .i64 0, .int .i64 0] 84)).cell? ⟨w.heap.size, j, none⟩).isSome = true) ∧ ∀ j, j < 4 → (w.alloc (.cells #[.int .i64 0, .int .i64 0, .int .i64 0, .int .i64 0] 84)).frozen? ⟨w.heap.size, j, none⟩ = false := by
  have h := heap_alloc_new w (.cells #[.int .i64 0, .int .i64 0, .int .i64 0, .int .i64 0] 84)
  constructor
  · intro j hj
    unfold World.cell?
    rw [h]
    simp; omega
  · intro j hj
    unfold World.frozen?
    rw [h]
    simp
theorem holds_one (φ : Fm.T) (F G : Nat → Prop) (w : World) (hb kb n : Nat) (S R : ByteArray) (p g x : Nat) (hB : Base F G w hb kb n S R) (hT : Tree F w φ p) (hx : x < n) (hg : w.cell? ⟨g, 0, none⟩ = some (.int .i64 (x : Int))) :
    Calls Tryz.prog 29 #[ptrV hb, ptrV p, .slice (some ⟨g, 0, none⟩) 1 1] w fun en w' => en = .returned (.bool (Fm.holds (stOf n S R) φ (env2 x 0))) ∧ EverP F G kb (stOf n S R) w w' := by
  have hbel0 : Below w.heap.size w (w.alloc (.cells #[.int .i64 0, .int .i64 0, .int .i64 0, .int .i64 0] 84)) := (Below.refl w.heap.size w).alloc (Nat.le_refl _) _
  have hbel : Below w.heap.size w (w.alloc (.cells #[.int .i64 (x : Int), .int .i64 0, .int .i64 0, .int .i64 0] 84)) := (Below.refl w.heap.size w).alloc (Nat.le_refl _) _
  have cn := copy_ints (w.alloc (.cells #[.int .i64 0, .int .i64 0, .int .i64 0, .int .i64 0] 84)) w.heap.size g [.int .i64 (x : Int)] (by simp)
    (fun j v h => by
      rcases j with _ | j
      · simp at h; subst h
        exact (hbel0.cell (World.block_lt_of_cell? w _ hg)).trans hg
      · simp at h) (fresh4 w).1 (fresh4 w).2 (fun v hv => by simp at hv; subst hv; rfl)
  have HC : Hid (Calls Tryz.prog 50 #[ptrV hb, ptrV p, .agg #[.int .i64 (x : Int), .int .i64 0, .int .i64 0, .int .i64 0]] (w.alloc (.cells #[.int .i64 (x : Int), .int .i64 0, .int .i64 0, .int .i64 0] 84)) fun en w' => en = .returned (.bool (Fm.holds (stOf n S R) φ (env2 x 0))) ∧ EverP F G kb (stOf n S R) (w.alloc (.cells #[.int .i64 (x : Int), .int .i64 0, .int .i64 0, .int .i64 0] 84)) w') :=
    true_any φ F G _ hb kb n S R p (env2 x 0) (hB.below hbel) (hT.below hbel) (env2_lt hx (by have := hB.n1; omega))
  have HE := Lib.hid (EverP.of_below hB.memo hbel)
  clear hB hT hbel hbel0
  unfold ptrV at HC
  unfold ptrV
  simp only [World.setCells, List.length_cons, List.length_nil] at cn
  go_enter Tryz.func29, Tryz.ntmps29
  go_wp2_with fail
  refine HC.out.mono ?_; rintro _ w1 ⟨rfl, hev⟩
  have HEND := Lib.hid (HE.out.then (fun b hb => .inl hb) hev)
  clear hev
  go_wp2_with fail
  go_ret
  exact ⟨rfl, HEND.out⟩
end Go.Proofs.YtlkemhhkcanmoaaGreatDoor
namespace Go.Proofs.YtlkemhhkcanmoaaGreatDoor
open Go.RowKit
set_option linter.unusedVariables false
set_option maxRecDepth 100000
theorem implHoldsAt0 (f : ByteArray) (hf : f.size ≤ 9223372036854775807) (n : Nat) (S R : ByteArray) (hv : validB n S R = true) (w : World) :
    Calls Tryz.prog 41 #[strV n S R, .string f, .slice none 0 0] w fun en w' => en = .returned (.tuple #[.bool (hin f (stOf n S R)).1, .bool (hin f (stOf n S R)).2]) ∧ Below w.heap.size w w' := by
  obtain ⟨h1, h8, hS, hR, _, _⟩ := valid_is hv
  have HIS : Hid (∀ w, Calls Tryz.prog 27 #[strV n S R] w fun e w' => e = .returned (.bool true) ∧ Below w.heap.size w w') := fun w => by
    have := isStructure_any n S R w (by omega) (by rw [hR]; have := Nat.mul_le_mul h8 h8; omega)
    rw [hv] at this
    exact this
  have HAE := Lib.hid (fun w => areElements_nil n S R w)
  have HNH := Lib.hid (fun F w hF => newHolder_any n S R hv F w hF)
  have HHN := Lib.hid (fun φ F G w hb kb p hB hT => holds_nil φ F G w hb kb n S R p hB hT)
  have HB : Hid (SBlk (boxS w n S R) w.heap.size n S R ∧ Below w.heap.size w (boxS w n S R)) := ⟨boxS_SBlk _ _ _ _, boxS_below _ _ _ _⟩
  obtain ⟨W, hW⟩ : ∃ W, boxS w n S R = W := ⟨_, rfl⟩
  rw [hW] at HB
  unfold boxS at hW
  obtain ⟨x3, hx3⟩ : ∃ x, w.heap.size = x := ⟨_, rfl⟩
  rw [hx3] at HB
  have HX3 := Lib.hid hx3
  have HW := Lib.hid hW
  clear hW hx3
  unfold strV at HIS HAE HNH
  unfold strV
  go_enter Tryz.func41, Tryz.ntmps41
  go_upto_region 1 with fail
  rw [HW.out, HX3.out]
  go_wp2_with fail
  refine (parseFormula_any f _ hf).mono ?_
  rintro en w2 ⟨hb2, hor⟩
  have HB2 : Hid (SBlk w2 x3 n S R ∧ Below w.heap.size w w2) := ⟨HB.out.1.below hb2 HB.out.1.cells.2.2.2.2.2.2, (by rw [HX3.out]; exact HB.out.2.trans (hb2.mono (by have := HB.out.2.size; rw [HX3.out] at this; exact this)))⟩
  clear hb2
  rcases hor with ⟨hr, rfl⟩ | ⟨φ, p, hr, rfl, ht⟩
  · have HI : Hid (hin f (stOf n S R) = (false, false)) := by show _ = _; unfold hin; rw [hr]
    clear hr
    go_wp2_with fail
    go_ret2
    exact ⟨ret_bb (by rw [HI.out]) (by rw [HI.out]), HB2.out.2⟩
  · have HI : Hid (hin f (stOf n S R) = if Fm.free φ = 0 then (Fm.holds (stOf n S R) φ (fun _ => 0), true) else (false, false)) := by show _ = _; unfold hin; rw [hr]
    clear hr
    have HT := Lib.hid ht
    clear ht
    have s0 := HB2.out.1.cells.1
    have s1 := HB2.out.1.cells.2.1
    have s2 := HB2.out.1.cells.2.2.1
    unfold ptrV
    go_wp2_with fail
    refine (HIS.out _).mono ?_; rintro _ w3 ⟨rfl, hb3⟩
    have HB3 : Hid (SBlk w3 x3 n S R ∧ Below w.heap.size w w3) := ⟨HB2.out.1.below hb3 HB2.out.1.cells.2.2.2.2.2.2, HB2.out.2.trans (hb3.mono HB2.out.2.size)⟩
    have HT3 := Lib.hid (HT.out.below hb3)
    clear s0 s1 s2 hb3
    have s0 := HB3.out.1.cells.1
    have s1 := HB3.out.1.cells.2.1
    have s2 := HB3.out.1.cells.2.2.1
    go_wp2_with fail
    refine (HAE.out _).mono ?_; rintro _ w4 ⟨rfl, hb4⟩
    have HB4 : Hid (SBlk w4 x3 n S R ∧ Below w.heap.size w w4) := ⟨HB3.out.1.below hb4 HB3.out.1.cells.2.2.2.2.2.2, HB3.out.2.trans (hb4.mono HB3.out.2.size)⟩
    have HT4 := Lib.hid (HT3.out.below hb4)
    clear s0 s1 s2 hb4
    have s0 := HB4.out.1.cells.1
    have s1 := HB4.out.1.cells.2.1
    have s2 := HB4.out.1.cells.2.2.1
    obtain ⟨v, u, qs, nd, _⟩ := HT4.out.node
    have c3 := nd.cells.2.2.2.1
    have hfl := Fm.free_lt φ
    have HTI := Lib.hid HT4.out.tight
    clear nd
    have HHN2 := Lib.hid (HHN.out φ)
    generalize Fm.free φ = fr at *
    generalize Fm.holds (stOf n S R) φ (fun _ => 0) = tr at *
    by_cases h0 : fr = 0
    · subst h0
      have HI2 : Hid (hin f (stOf n S R) = (tr, true)) := HI.out.trans (if_pos rfl)
      go_wp2_with fail
      refine (HNH.out (fun b => W.heap.size ≤ b ∧ b < w4.heap.size) w4 (fun b hb => hb.2)).mono ?_
      rintro _ w5 ⟨hb, kb, rfl, hkb, hbase, hb5⟩
      have HBS := Lib.hid hbase
      have HT5 := Lib.hid ((HTI.out.below hb5).mono (F' := fun b => (W.heap.size ≤ b ∧ b < w4.heap.size) ∨ b = hb) (fun b h => .inl h))
      have HB5 : Hid (Below w.heap.size w w5) := HB4.out.2.trans (hb5.mono HB4.out.2.size)
      have HKB : Hid (w.heap.size ≤ kb) := Nat.le_trans HB4.out.2.size hkb
      clear s0 s1 s2 c3 hbase hb5 hkb
      have HCC := HHN2.out _ _ _ _ _ _ HBS.out HT5.out
      unfold ptrV at HCC
      have HCD := Lib.hid HCC
      clear HCC
      unfold ptrV
      go_wp2_with fail
      refine HCD.out.mono ?_; rintro _ w6 ⟨rfl, hev⟩
      have HEND : Hid (Below w.heap.size w w6) := HB5.out.trans (hev.off.below HB5.out.size (fun b hb => by rw [hb]; exact HKB.out))
      clear hev
      go_wp2_with fail
      go_ret2
      exact ⟨ret_bb (by rw [HI2.out]) (by rw [HI2.out]), HEND.out⟩
    · have HI2 : Hid (hin f (stOf n S R) = (false, false)) := HI.out.trans (if_neg h0)
      go_wp2_with fail
      go_ret2
      exact ⟨ret_bb (by rw [HI2.out]) (by rw [HI2.out]), HB4.out.2⟩
theorem implHoldsIn_any (f : ByteArray) (hf : f.size ≤ 9223372036854775807) (n : Nat) (S R : ByteArray) (hv : validB n S R = true) (w : World) :
    Calls Tryz.prog 21 #[strV n S R, .string f] w fun en w' => en = .returned (.tuple #[.bool (hin f (stOf n S R)).1, .bool (hin f (stOf n S R)).2]) ∧ Below w.heap.size w w' := by
  have HC := Lib.hid (fun w => implHoldsAt0 f hf n S R hv w)
  unfold strV at HC
  unfold strV
  go_enter Tryz.func21, Tryz.ntmps21
  go_wp2_with fail
  refine (HC.out _).mono ?_; rintro _ w1 ⟨rfl, hb1⟩
  go_wp2_with fail
  go_ret2
  refine ⟨rfl, ?_⟩
  exact Below.trans ((Below.refl w.heap.size w).alloc (Nat.le_refl _) _) (hb1.mono (by simp))
/-- Whether a text is a sentence that is true of a word, and whether both are what they are said to be. -/
def accW (f s : ByteArray) : Bool × Bool := if wordB s then hin f (stOf s.size (bitsOf (letB s) s.size) (gridOf ltB s.size)) else (false, false)
theorem word_valid {s : ByteArray} (h : wordB s = true) : s.size ≤ 8 ∧ validB s.size (bitsOf (letB s) s.size) (gridOf ltB s.size) = true := by
  unfold wordB at h
  rw [Bool.and_eq_true] at h
  have h1 : 1 ≤ s.size ∧ s.size ≤ 8 := by
    have := h.1
    unfold inB at this
    simp at this
    omega
  exact ⟨h1.2, valid_bits h1.1 h1.2 _ _⟩
theorem specAccepts_any (f s : ByteArray) (hf : f.size ≤ 9223372036854775807) (hs : s.size ≤ 9223372036854775807) (w : World) :
    Calls Tryz.prog 6 #[.string f, .string s] w fun en w' => en = .returned (.tuple #[.bool (accW f s).1, .bool (accW f s).2]) ∧ Below w.heap.size w w' := by
  cases hw : wordB s
  · have HA : Hid (accW f s = (false, false)) := by show _ = _; unfold accW; rw [hw]; rfl
    have HV : Hid (∀ w, Calls Tryz.prog 23 #[.string s] w fun e w' => e = .returned (.bool false) ∧ w = w') := fun w => by rw [← hw]; exact specWordValid_any s w hs
    clear hw
    go_enter Tryz.func6, Tryz.ntmps6
    go_wp2_with fail
    refine (HV.out _).mono ?_; rintro _ _ ⟨rfl, rfl⟩
    go_wp2_with fail
    go_ret2
    exact ⟨ret_bb (by rw [HA.out]) (by rw [HA.out]), Below.refl _ _⟩
  · have HA : Hid (accW f s = hin f (stOf s.size (bitsOf (letB s) s.size) (gridOf ltB s.size))) := by show _ = _; unfold accW; rw [hw]; rfl
    have HV : Hid (∀ w, Calls Tryz.prog 23 #[.string s] w fun e w' => e = .returned (.bool true) ∧ w = w') := fun w => by rw [← hw]; exact specWordValid_any s w hs
    have hv := word_valid hw
    have HS := Lib.hid (fun w => l12Structure_any s w hv.1)
    have HH := Lib.hid (fun w => specHoldsIn_any f hf _ _ _ hv.2 w)
    unfold wordV at HS
    generalize bitsOf (letB s) s.size = S at *
    generalize gridOf ltB s.size = R at *
    clear hw hv
    unfold strV at HS HH
    go_enter Tryz.func6, Tryz.ntmps6
    go_wp2_with fail
    refine (HV.out _).mono ?_; rintro _ _ ⟨rfl, rfl⟩
    go_wp2_with fail
    refine (HS.out _).mono ?_; rintro _ w1 ⟨rfl, hb1⟩
    have HB1 := Lib.hid hb1
    clear hb1
    go_wp2_with fail
    refine (HH.out _).mono ?_; rintro _ w2 ⟨rfl, hb2⟩
    have HB2 := Lib.hid (HB1.out.trans (hb2.mono HB1.out.size))
    clear hb2
    go_wp2_with fail
    go_ret2
    exact ⟨ret_bb (by rw [HA.out]) (by rw [HA.out]), HB2.out⟩
theorem implAccepts_any (f s : ByteArray) (hf : f.size ≤ 9223372036854775807) (hs : s.size ≤ 9223372036854775807) (w : World) :
    Calls Tryz.prog 5 #[.string f, .string s] w fun en w' => en = .returned (.tuple #[.bool (accW f s).1, .bool (accW f s).2]) ∧ Below w.heap.size w w' := by
  cases hw : wordB s
  · have HA : Hid (accW f s = (false, false)) := by show _ = _; unfold accW; rw [hw]; rfl
    have HV : Hid (∀ w, Calls Tryz.prog 20 #[.string s] w fun e w' => e = .returned (.bool false) ∧ Below w.heap.size w w') := fun w => by rw [← hw]; exact isWord_any s w hs
    clear hw
    go_enter Tryz.func5, Tryz.ntmps5
    go_wp2_with fail
    refine (HV.out _).mono ?_; rintro _ w0 ⟨rfl, hb0⟩
    go_wp2_with fail
    go_ret2
    exact ⟨ret_bb (by rw [HA.out]) (by rw [HA.out]), hb0⟩
  · have HA : Hid (accW f s = hin f (stOf s.size (bitsOf (letB s) s.size) (gridOf ltB s.size))) := by show _ = _; unfold accW; rw [hw]; rfl
    have HV : Hid (∀ w, Calls Tryz.prog 20 #[.string s] w fun e w' => e = .returned (.bool true) ∧ Below w.heap.size w w') := fun w => by rw [← hw]; exact isWord_any s w hs
    have hv := word_valid hw
    have HS := Lib.hid (fun w => implWordStr_any s w hv.1)
    have HH := Lib.hid (fun w => implHoldsIn_any f hf _ _ _ hv.2 w)
    unfold wordV at HS
    generalize bitsOf (letB s) s.size = S at *
    generalize gridOf ltB s.size = R at *
    clear hw hv
    unfold strV at HS HH
    go_enter Tryz.func5, Tryz.ntmps5
    go_wp2_with fail
    refine (HV.out _).mono ?_; rintro _ w0 ⟨rfl, hb0⟩
    have HB0 := Lib.hid hb0
    clear hb0
    go_wp2_with fail
    refine (HS.out _).mono ?_; rintro _ w1 ⟨rfl, hb1⟩
    have HB1 := Lib.hid (HB0.out.trans (hb1.mono HB0.out.size))
    clear hb1
    go_wp2_with fail
    refine (HH.out _).mono ?_; rintro _ w2 ⟨rfl, hb2⟩
    have HB2 := Lib.hid (HB1.out.trans (hb2.mono HB1.out.size))
    clear hb2
    go_wp2_with fail
    go_ret2
    exact ⟨ret_bb (by rw [HA.out]) (by rw [HA.out]), HB2.out⟩
end Go.Proofs.YtlkemhhkcanmoaaGreatDoor
