/- The program's holds with one element or two. Conditions: the elements are the structure's own. -/
import Derived.Test.YtadgiknnejjplaaHolds
import Derived.Laws.IdiomCopy
namespace Go.Proofs.Ytadgiknnejjplaa
open Go.RowKit
set_option linter.unusedVariables false
set_option maxRecDepth 100000

/-- The elements x and y for the first two variables. -/
def env2 (x y : Nat) : Fm.Env := fun i => if i = 0 then x else if i = 1 then y else 0
theorem env2_V (x y : Nat) : envV (env2 x y) = .agg #[.int .i64 (x : Int), .int .i64 (y : Int), .int .i64 0, .int .i64 0] := rfl
theorem env2_lt {x y n : Nat} (hx : x < n) (hy : y < n) : ∀ v, env2 x y v < n := fun v => by
  unfold env2
  split
  · exact hx
  · split
    · exact hy
    · omega
theorem intSize : (Try.prog.info? 3).map (·.size) = some 1 := by kernel_rfl
theorem copy_ints (w : World) (b g : Nat) (cs : List Value) (hn : cs.length ≤ 4) (hsrc : ∀ j v, cs[j]? = some v → w.cell? ⟨g, j, none⟩ = some v) (hc : ∀ j, j < 4 → (w.cell? ⟨b, j, none⟩).isSome = true) (hf : ∀ j, j < 4 → w.frozen? ⟨b, j, none⟩ = false) (h1 : ∀ v ∈ cs, v.oneCell' = true) :
    (Builtin.copy_ #[65, 65] 3 #[.slice (some ⟨b, 0, none⟩) 4 4, .slice (some ⟨g, 0, none⟩) cs.length cs.length]).run Try.prog w = .ok (goInt cs.length) (w.setCells b 0 cs) :=
  run_copy_cells w 65 65 3 3 b 0 4 4 ⟨g, 0, none⟩ cs.length cs.length cs Try.underlying65 intSize (by simp [Nat.min_def]; omega) (fun j v h => by
    have := hsrc j v h
    rcases j with _ | j
    · exact this
    · simpa [Addr.add] using this) (fun j hj => by simpa using hc j (by omega)) (fun j hj => by simpa using hf j (by omega)) h1
theorem fresh4 (w : World) : (∀ j, j < 4 → ((w.alloc (.cells #[.int .i64 0, .int .i64 0, .int .i64 0, .int .i64 0] 38)).cell? ⟨w.heap.size, j, none⟩).isSome = true) ∧ ∀ j, j < 4 → (w.alloc (.cells #[.int .i64 0, .int .i64 0, .int .i64 0, .int .i64 0] 38)).frozen? ⟨w.heap.size, j, none⟩ = false := by
  have h := heap_alloc_new w (.cells #[.int .i64 0, .int .i64 0, .int .i64 0, .int .i64 0] 38)
  constructor
  · intro j hj
    unfold World.cell?
    rw [h]
    simp; omega
  · intro j hj
    unfold World.frozen?
    rw [h]
    simp
theorem holds_one (φ : Fm.T) (F G : Nat → Prop) (w : World) (hb kb n : Nat) (S R : ByteArray) (p g x : Nat) (hB : Base F G w hb kb n S R) (hT : Tree F w φ p) (hx : x < n) (hg : w.cell? ⟨g, 0, none⟩ = some (.int .i64 (x : Int))) :
    Calls Try.prog 21 #[ptrV hb, ptrV p, .slice (some ⟨g, 0, none⟩) 1 1] w fun en w' => en = .returned (.bool (Fm.holds (stOf n S R) φ (env2 x 0))) ∧ EverP F G kb (stOf n S R) w w' := by
  have hbel0 : Below w.heap.size w (w.alloc (.cells #[.int .i64 0, .int .i64 0, .int .i64 0, .int .i64 0] 38)) := (Below.refl w.heap.size w).alloc (Nat.le_refl _) _
  have hbel : Below w.heap.size w (w.alloc (.cells #[.int .i64 (x : Int), .int .i64 0, .int .i64 0, .int .i64 0] 38)) := (Below.refl w.heap.size w).alloc (Nat.le_refl _) _
  have cn := copy_ints (w.alloc (.cells #[.int .i64 0, .int .i64 0, .int .i64 0, .int .i64 0] 38)) w.heap.size g [.int .i64 (x : Int)] (by simp)
    (fun j v h => by
      rcases j with _ | j
      · simp at h; subst h
        exact (hbel0.cell (World.block_lt_of_cell? w _ hg)).trans hg
      · simp at h) (fresh4 w).1 (fresh4 w).2 (fun v hv => by simp at hv; subst hv; rfl)
  have HC : Hid (Calls Try.prog 33 #[ptrV hb, ptrV p, .agg #[.int .i64 (x : Int), .int .i64 0, .int .i64 0, .int .i64 0]] (w.alloc (.cells #[.int .i64 (x : Int), .int .i64 0, .int .i64 0, .int .i64 0] 38)) fun en w' => en = .returned (.bool (Fm.holds (stOf n S R) φ (env2 x 0))) ∧ EverP F G kb (stOf n S R) (w.alloc (.cells #[.int .i64 (x : Int), .int .i64 0, .int .i64 0, .int .i64 0] 38)) w') :=
    true_any φ F G _ hb kb n S R p (env2 x 0) (hB.below hbel) (hT.below hbel) (env2_lt hx (by have := hB.n1; omega))
  have HE := Lib.hid (EverP.of_below hB.memo hbel)
  clear hB hT hbel hbel0
  unfold ptrV at HC
  unfold ptrV
  simp only [World.setCells, List.length_cons, List.length_nil] at cn
  go_enter Try.func21, Try.ntmps21
  go_wp2_with fail
  refine HC.out.mono ?_; rintro _ w1 ⟨rfl, hev⟩
  have HEND := Lib.hid (HE.out.then (fun b hb => .inl hb) hev)
  clear hev
  go_wp2_with fail
  go_ret
  exact ⟨rfl, HEND.out⟩
theorem holds_two (φ : Fm.T) (F G : Nat → Prop) (w : World) (hb kb n : Nat) (S R : ByteArray) (p g x y : Nat) (hB : Base F G w hb kb n S R) (hT : Tree F w φ p) (hx : x < n) (hy : y < n) (hg : w.cell? ⟨g, 0, none⟩ = some (.int .i64 (x : Int))) (hg1 : w.cell? ⟨g, 1, none⟩ = some (.int .i64 (y : Int))) :
    Calls Try.prog 21 #[ptrV hb, ptrV p, .slice (some ⟨g, 0, none⟩) 2 2] w fun en w' => en = .returned (.bool (Fm.holds (stOf n S R) φ (env2 x y))) ∧ EverP F G kb (stOf n S R) w w' := by
  have hbel0 : Below w.heap.size w (w.alloc (.cells #[.int .i64 0, .int .i64 0, .int .i64 0, .int .i64 0] 38)) := (Below.refl w.heap.size w).alloc (Nat.le_refl _) _
  have hbel : Below w.heap.size w (w.alloc (.cells #[.int .i64 (x : Int), .int .i64 (y : Int), .int .i64 0, .int .i64 0] 38)) := (Below.refl w.heap.size w).alloc (Nat.le_refl _) _
  have cn := copy_ints (w.alloc (.cells #[.int .i64 0, .int .i64 0, .int .i64 0, .int .i64 0] 38)) w.heap.size g [.int .i64 (x : Int), .int .i64 (y : Int)] (by simp)
    (fun j v h => by
      rcases j with _ | j
      · simp at h; subst h
        exact (hbel0.cell (World.block_lt_of_cell? w _ hg)).trans hg
      · rcases j with _ | j
        · simp at h; subst h
          exact (hbel0.cell (World.block_lt_of_cell? w _ hg1)).trans hg1
        · simp at h) (fresh4 w).1 (fresh4 w).2 (fun v hv => by simp at hv; rcases hv with rfl | rfl <;> rfl)
  have HC : Hid (Calls Try.prog 33 #[ptrV hb, ptrV p, .agg #[.int .i64 (x : Int), .int .i64 (y : Int), .int .i64 0, .int .i64 0]] (w.alloc (.cells #[.int .i64 (x : Int), .int .i64 (y : Int), .int .i64 0, .int .i64 0] 38)) fun en w' => en = .returned (.bool (Fm.holds (stOf n S R) φ (env2 x y))) ∧ EverP F G kb (stOf n S R) (w.alloc (.cells #[.int .i64 (x : Int), .int .i64 (y : Int), .int .i64 0, .int .i64 0] 38)) w') :=
    true_any φ F G _ hb kb n S R p (env2 x y) (hB.below hbel) (hT.below hbel) (env2_lt hx hy)
  have HE := Lib.hid (EverP.of_below hB.memo hbel)
  clear hB hT hbel hbel0
  unfold ptrV at HC
  unfold ptrV
  simp only [World.setCells, List.length_cons, List.length_nil] at cn
  go_enter Try.func21, Try.ntmps21
  go_wp2_with fail
  refine HC.out.mono ?_; rintro _ w1 ⟨rfl, hev⟩
  have HEND := Lib.hid (HE.out.then (fun b hb => .inl hb) hev)
  clear hev
  go_wp2_with fail
  go_ret
  exact ⟨rfl, HEND.out⟩
end Go.Proofs.Ytadgiknnejjplaa
