/- The reference's l11Put. Conditions: the texts are not long; a view's formulas have the first variables free alone. -/
import Derived.Test.YtjepegkbbbebkaaDoorPut0
import Derived.Test.YtjepegkbbbebkaaDoorFmEnd
import Derived.Test.YtjepegkbbbebkaaDoorTailQ
namespace Go.Proofs.YtjepegkbbbebkaaDoor
open Go.RowKit
set_option linter.unusedVariables false
set_option maxRecDepth 100000

def tS (l : List UInt8) : ByteArray := ⟨l.toArray⟩
theorem tS_app (a b : List UInt8) : tS a ++ tS b = tS (a ++ b) := by
  apply ByteArray.ext
  simp [tS, ByteArray.data_append]
theorem tS_size (l : List UInt8) : (tS l).size = l.length := by simp [tS, ByteArray.size]
theorem ext_one {f : ByteArray} {a : Nat} (h : a < f.size) : f.extract a (a + 1) = tS [f[a]] := by
  apply ByteArray.ext
  apply Array.ext'
  rw [ByteArray.data_extract, Array.toList_extract]
  have hl : a < f.data.toList.length := by simpa using h
  have h1 := List.drop_eq_getElem_cons (i := a) hl
  show (f.data.toList.drop a).take (a + 1 - a) = [f[a]]
  rw [h1, show a + 1 - a = 1 by omega]
  rfl
/-- What the reference's put returns for what is put. -/
def LR (r : Option Fm.T) (s : ByteArray) (b : Bool) : Prop := (r = none ∧ b = false) ∨ ∃ ψ, r = some ψ ∧ b = true ∧ s = tS (Fm.text ψ)
def viewsV (S R : ByteArray) : Value := .agg #[.string S, .string R]
/-- The box of the map and of the views. -/
structure Ln (w wr : World) (m : Fm.M) (S R : ByteArray) : Prop where
  map : wr.heap[w.heap.size]? = some (.cells (mapC m) 144 (0, 0))
  vw : wr.heap[w.heap.size + 1]? = some (.cells #[.string S, .string R] 146 (0, 0))
  old : Below w.heap.size w wr
section
variable {w wr w' : World} {m : Fm.M} {S R : ByteArray}
theorem Ln.size (h : Ln w wr m S R) : w.heap.size + 2 ≤ wr.heap.size := (Array.getElem?_eq_some_iff.1 h.vw).1
theorem Ln.below (h : Ln w wr m S R) (hb : Below wr.heap.size wr w') : Ln w w' m S R := by
  have hs := h.size
  exact ⟨(hb.block _ (by omega)).trans h.map, (hb.block _ (by omega)).trans h.vw, h.old.trans (hb.mono (by omega))⟩
theorem Ln.cells (h : Ln w wr m S R) : (∀ x : Fin 4, wr.cell? ⟨w.heap.size, x.val, none⟩ = some (.int .i64 (((m x).val : Nat) : Int))) ∧ wr.cell? ⟨w.heap.size + 1, 0, none⟩ = some (.string S) ∧ wr.cell? ⟨w.heap.size + 1, 1, none⟩ = some (.string R) ∧ w.heap.size < wr.heap.size := by
  refine ⟨fun x => mapC_cell m wr _ _ h.map x, ?_, ?_, by have := h.size; omega⟩ <;> simp [World.cell?, h.vw]
theorem Ln.setv (h : Ln w wr m S R) (v u : Fin 4) : Ln w (wr.setCell ⟨w.heap.size, v.val, none⟩ (.int .i64 ((u.val : Nat) : Int))) (Fm.fput m v u) S R := by
  refine ⟨?_, (Below.heap_setCell _ _ _ _ (by simp)).trans h.vw, h.old.setCell (by simp) _⟩
  have := c4_set (f := fun x => .int .i64 (((m x).val : Nat) : Int)) h.map v (.int .i64 ((u.val : Nat) : Int))
  rw [this]
  show some (Obj.cells (c4 _) _ _) = some (Obj.cells (c4 fun x => .int .i64 (((Fm.fput m v u x).val : Nat) : Int)) _ _)
  congr 3
  funext y
  unfold Fm.fput
  by_cases hy : y = v
  · simp [hy]
  · simp [hy]
theorem Ln.first (w : World) (m : Fm.M) (S R : ByteArray) : Ln w ((w.alloc (.cells (mapC m) 144)).alloc (.cells #[.string S, .string R] 146)) m S R := by
  refine ⟨(Below.heap_alloc _ _ _ (by simp)).trans (heap_alloc_new w _), ?_, ((Below.refl w.heap.size w).alloc (Nat.le_refl _) _).alloc (by simp) _⟩
  have := heap_alloc_new (w.alloc (.cells (mapC m) 144)) (.cells #[.string S, .string R] 146)
  simpa using this
end
/-- What l11Put leaves. -/
def LP (r : Option Fm.T) (E : Nat) (K : Nat) (w : World) (e : Ending) (w' : World) : Prop :=
  ∃ s b, e = .returned (.tuple #[.string s, .int .i64 (E : Int), .bool b]) ∧ LR r s b ∧ s.size ≤ K ∧ Below w.heap.size w w'
/-- The views' texts and what is put for them. -/
def VOK (V : Option (Fm.T × Fm.T)) (S R : ByteArray) (K : Nat) : Prop :=
  (V = none ∧ S = ⟨#[]⟩ ∧ R = ⟨#[]⟩ ∧ K = 1) ∨ ∃ ps pr, V = some (ps, pr) ∧ K = 4000 ∧ S.toList.isEmpty = false ∧ R.toList.isEmpty = false ∧
    (∀ (k : Fin 4) w, ∃ E, Calls Tryd.prog 120 #[.string S, .int .i64 0, .agg #[.int .i64 ((k.val : Nat) : Int), .int .i64 0, .int .i64 0, .int .i64 0], .agg #[.string ⟨#[]⟩, .string ⟨#[]⟩]] w (LP (Fm.put ps (Fm.fput id 0 k)) E 4000 w)) ∧
    ∀ (k l : Fin 4) w, ∃ E, Calls Tryd.prog 120 #[.string R, .int .i64 0, .agg #[.int .i64 ((k.val : Nat) : Int), .int .i64 ((l.val : Nat) : Int), .int .i64 0, .int .i64 0], .agg #[.string ⟨#[]⟩, .string ⟨#[]⟩]] w (LP (Fm.put pr (Fm.fput (Fm.fput id 1 l) 0 k)) E 4000 w)
theorem VOK.k {V : Option (Fm.T × Fm.T)} {S R : ByteArray} {K : Nat} (h : VOK V S R K) : 1 ≤ K ∧ K ≤ 4000 := by
  rcases h with ⟨_, _, _, rfl⟩ | ⟨_, _, _, rfl, _⟩ <;> omega
theorem LR.lit {r : Option Fm.T} {ψ : Fm.T} {s : ByteArray} (h : r = some ψ) (hs : s = tS (Fm.text ψ)) : LR r s true := .inr ⟨ψ, h, rfl, hs⟩
theorem LR.map {r : Option Fm.T} {s s' : ByteArray} {b : Bool} (c : Fm.T → Fm.T) (h : LR r s b) (hs : ∀ ψ, s = tS (Fm.text ψ) → s' = tS (Fm.text (c ψ))) : LR (r.map c) s' b := by
  rcases h with ⟨rfl, hb⟩ | ⟨ψ, rfl, hb, h⟩
  · exact .inl ⟨rfl, hb⟩
  · exact .inr ⟨c ψ, rfl, hb, hs ψ h⟩
theorem LR.two {r r2 : Option Fm.T} {s s2 s' : ByteArray} {b b2 : Bool} (c : Fm.T → Fm.T → Fm.T) (h : LR r s b) (h2 : LR r2 s2 b2) (hs : ∀ ψ χ, s = tS (Fm.text ψ) → s2 = tS (Fm.text χ) → s' = tS (Fm.text (c ψ χ))) : LR (r.bind fun x => r2.map fun y => c x y) s' (b && b2) := by
  rcases h with ⟨rfl, rfl⟩ | ⟨ψ, rfl, rfl, h⟩
  · exact .inl ⟨rfl, rfl⟩
  · rcases h2 with ⟨rfl, rfl⟩ | ⟨χ, rfl, rfl, h2⟩
    · exact .inl ⟨rfl, rfl⟩
    · exact .inr ⟨c ψ χ, rfl, rfl, hs ψ χ h h2⟩
theorem ret_lp {r : Option Fm.T} {E K : Nat} {w w' : World} {s : ByteArray} {z : Int} {b : Bool} (hz : z = (E : Int)) (h : LR r s b) (hs : s.size ≤ K) (hb : Below w.heap.size w w') : LP r E K w (.returned (.tuple #[.string s, .int .i64 z, .bool b])) w' := ⟨s, b, by rw [hz], h, hs, hb⟩

set_option maxHeartbeats 4000000 in
theorem l11Put_any (f : ByteArray) (hf : f.size ≤ 1000000) (V : Option (Fm.T × Fm.T)) (S R : ByteArray) (K : Nat) (hV : VOK V S R K) : ∀ (φ : Fm.T) (z : Int) (a : Nat) (m : Fm.M) (w : World), z = (a : Int) → Fm.At f.data.toList a φ →
    Calls Tryd.prog 120 #[.string f, .int .i64 z, mapV m, viewsV S R] w (LP (Fm.putG V φ m) (a + Fm.len φ) (K * Fm.len φ) w) := by
  have HV : Hid (∀ (z : Int) (a : Nat) (w : World), z = (a : Int) → Calls Tryd.prog 121 #[.string f, .int .i64 z] w fun e w' => e = .returned (.int .i64 (Fm.varI (f.data.toList.drop a))) ∧ Below w.heap.size w w') := fun z a w hz => (l2Var_any f z a w hz hf).mono fun _ _ h => ⟨h.1, by first | (rw [h.2]; exact Below.refl _ _) | (rw [← h.2]; exact Below.refl _ _)⟩
  have HNM : Hid (∀ (v : Fin 4) (w : World), Calls Tryd.prog 164 #[.int .i64 ((v.val : Nat) : Int)] w fun e w' => e = .returned (.string ⟨#[Fm.vb v]⟩) ∧ Below w.heap.size w w') := fun v w => (l11Name_any v w).mono fun _ _ h => ⟨h.1, by first | (rw [h.2]; exact Below.refl _ _) | (rw [← h.2]; exact Below.refl _ _)⟩
  have HVO := Lib.hid hV
  have hK := hV.k
  clear hV
  intro φ
  induction φ with
  | lit b =>
    intro z a m w hz hA
    subst hz
    obtain ⟨hlt, hx⟩ := byte_eq hA.head
    have haI : (0 : Int) ≤ (a : Int) := by omega
    have HLN := Lib.hid (Ln.first w m S R)
    have hx1 := ext_one hlt
    have hz1 : (f.extract a (a + 1)).size = 1 := by rw [hx1, tS_size]; rfl
    have hltI : (a : Int) + 1 ≤ (f.size : Int) := by omega
    obtain ⟨KK, hKK⟩ : ∃ n, K * Fm.len (.lit b) = n := ⟨_, rfl⟩
    rw [hKK]
    have HKK := Lib.hid hKK
    clear hKK
    have hp : Hid (∀ w' z, z = (a : Int) + 1 → Below w.heap.size w w' → LP (Fm.putG V (.lit b) m) (a + Fm.len (.lit b)) KK w (.returned (.tuple #[.string (f.extract a (a + 1)), .int .i64 z, .bool true])) w') := fun w' z hz hb => by
      refine ret_lp (by rw [hz]; simp [Fm.len, Fm.text]) (.lit (ψ := .lit b) rfl ?_) ?_ hb
      · rw [hx1, hx]; rfl
      · rw [hz1, ← HKK.out]; simp [Fm.len, Fm.text]; omega
    unfold mapC at HLN
    clear hA hx1 hz1
    unfold mapV viewsV
    cases b
    all_goals
      replace hx : f[a] = _ := hx
      simp only [Fm.T.op] at hx
      go_enter Tryd.func120, Tryd.ntmps120
      go_wp2_with fail
      go_ret3
      exact hp.out _ _ rfl HLN.out.old
  | set v =>
    intro z a m w hz hA
    subst hz
    obtain ⟨hlt, hx⟩ := byte_eq hA.head
    have haI : (0 : Int) ≤ (a : Int) := by omega
    have HLN := Lib.hid (Ln.first w m S R)
    have hx1 := ext_one hlt
    have hz1 : (f.extract a (a + 1)).size = 1 := by rw [hx1, tS_size]; rfl
    have hltI : (a : Int) + 1 ≤ (f.size : Int) := by omega
    obtain ⟨KK, hKK⟩ : ∃ n, K * Fm.len (.set v) = n := ⟨_, rfl⟩
    rw [hKK]
    have HKK := Lib.hid hKK
    clear hKK
    have HV1 := Lib.hid (fun w => HV.out ((a : Int) + 1) (a + 1) w (by omega))
    rw [hA.sv] at HV1
    have HE : Hid ((a : Int) + 2 = ((a + Fm.len (.set v) : Nat) : Int)) := by show _ = _; simp [Fm.len, Fm.text]
    have HLE : Hid (Fm.len (.set v) = 2) := rfl
    have hv4 : (v.val : Int) < 4 ∧ (0 : Int) ≤ (v.val : Int) := by have := v.isLt; omega
    replace hx : f[a] = 80 := hx
    unfold mapC at HLN
    clear hA hx1 hz1
    rcases HVO.out with ⟨rfl, rfl, rfl, rfl⟩ | ⟨ps, pr, rfl, rfl, hS, hR, HS, HR⟩
    · have HP : Hid (∀ w', Below w.heap.size w w' → LP (Fm.putG none (.set v) m) (a + Fm.len (.set v)) KK w (.returned (.tuple #[.string (⟨#[80]⟩ ++ ⟨#[Fm.vb (m v)]⟩), .int .i64 ((a : Int) + 2), .bool true])) w') := fun w' hb => ret_lp HE.out (.lit (ψ := .set (m v)) rfl (by apply ByteArray.ext; simp [tS, Fm.text])) (by rw [← HKK.out, HLE.out, ByteArray.size_append]; exact Nat.le_refl 2) hb
      have HN1 := Lib.hid (fun w => HNM.out (m v) w)
      have hz2 : (⟨#[Fm.vb (m v)]⟩ : ByteArray).size = 1 := rfl
      obtain ⟨s1, hs1⟩ : ∃ s, (⟨#[Fm.vb (m v)]⟩ : ByteArray) = s := ⟨_, rfl⟩
      rw [hs1] at HP HN1 hz2
      clear hs1
      unfold mapV viewsV
      go_enter Tryd.func120, Tryd.ntmps120
      go_wp2_with fail
      refine (HV1.out _).mono ?_; rintro e w2 ⟨rfl, hb2⟩
      have HL2 := Lib.hid (HLN.out.below hb2)
      obtain ⟨bx, bS, bR, bl⟩ := HL2.out.cells
      have bxv := bx v
      clear bx hb2
      go_wp2_with fail
      refine (HN1.out _).mono ?_; rintro e w3 ⟨rfl, hb3⟩
      have HB3 := Lib.hid (HL2.out.old.trans (hb3.mono HL2.out.old.size))
      clear hb3
      go_wp2_with fail
      go_ret3
      exact HP.out _ HB3.out
    · have HC := Lib.hid (fun w => HS (m v) w)
      have HP : Hid (∀ w' s b, LR (Fm.put ps (Fm.fput id 0 (m v))) s b → s.size ≤ 4000 → Below w.heap.size w w' → LP (Fm.putG (some (ps, pr)) (.set v) m) (a + Fm.len (.set v)) KK w (.returned (.tuple #[.string s, .int .i64 ((a : Int) + 2), .bool b])) w') := fun w' s b h hs hb => ret_lp HE.out h (by rw [← HKK.out, HLE.out]; omega) hb
      have hS2 : ¬ S.toList = [] := by intro h; rw [h] at hS; cases hS
      clear HS HR
      unfold mapV viewsV
      go_enter Tryd.func120, Tryd.ntmps120
      go_wp2_with fail
      refine (HV1.out _).mono ?_; rintro e w2 ⟨rfl, hb2⟩
      have HL2 := Lib.hid (HLN.out.below hb2)
      obtain ⟨bx, bS, bR, bl⟩ := HL2.out.cells
      have bxv := bx v
      clear bx hb2
      go_wp2_with fail
      obtain ⟨E, hE⟩ := HC.out w2
      refine hE.mono ?_; rintro e w3 ⟨s, b, rfl, hr, hs, hb3⟩
      have HPP := Lib.hid (HP.out _ s b hr hs (HL2.out.old.trans (hb3.mono HL2.out.old.size)))
      clear hb3 hE hr hs
      go_wp2_with fail
      go_ret3
      exact HPP.out
  | rel e v u =>
    intro z a m w hz hA
    subst hz
    obtain ⟨hlt, hx⟩ := byte_eq hA.head
    have haI : (0 : Int) ≤ (a : Int) := by omega
    have HLN := Lib.hid (Ln.first w m S R)
    have hx1 := ext_one hlt
    have hz1 : (f.extract a (a + 1)).size = 1 := by rw [hx1, tS_size]; rfl
    have hltI : (a : Int) + 1 ≤ (f.size : Int) := by omega
    obtain ⟨KK, hKK⟩ : ∃ n, K * Fm.len (.rel e v u) = n := ⟨_, rfl⟩
    rw [hKK]
    have HKK := Lib.hid hKK
    clear hKK
    have HV1 := Lib.hid (fun w => HV.out ((a : Int) + 1) (a + 1) w (by omega))
    have HV2 := Lib.hid (fun w => HV.out ((a : Int) + 2) (a + 2) w (by omega))
    rw [hA.rv] at HV1
    rw [hA.rw] at HV2
    have HE : Hid ((a : Int) + 3 = ((a + Fm.len (.rel e v u) : Nat) : Int)) := by show _ = _; simp [Fm.len, Fm.text]
    have HLE : Hid (Fm.len (.rel e v u) = 3) := rfl
    have hv4 : (v.val : Int) < 4 ∧ (0 : Int) ≤ (v.val : Int) := by have := v.isLt; omega
    have hu4 : (u.val : Int) < 4 ∧ (0 : Int) ≤ (u.val : Int) := by have := u.isLt; omega
    unfold mapC at HLN
    obtain ⟨bx, bS, bR, bl⟩ := HLN.out.cells
    have bxv := bx v
    have bxu := bx u
    have HX1 := Lib.hid hx1
    clear hA bx hx1
    obtain ⟨op, hop⟩ : ∃ o : UInt8, f[a] = o := ⟨_, rfl⟩
    have HOP : Hid (op = (Fm.T.rel e v u).op) := hop.symm.trans hx
    have key : (Fm.putG V (.rel e v u) m = some (.rel e (m v) (m u)) ∧ (e = true → R = ⟨#[]⟩)) ∨ (e = true ∧ ∃ ps pr, V = some (ps, pr) ∧ K = 4000 ∧ R.toList.isEmpty = false ∧ ∀ w, ∃ E, Calls Tryd.prog 120 #[.string R, .int .i64 0, .agg #[.int .i64 (((m v).val : Nat) : Int), .int .i64 (((m u).val : Nat) : Int), .int .i64 0, .int .i64 0], .agg #[.string ⟨#[]⟩, .string ⟨#[]⟩]] w (LP (Fm.put pr (Fm.fput (Fm.fput id 1 (m u)) 0 (m v))) E 4000 w)) := by
      cases e
      · exact .inl ⟨rfl, fun h => by cases h⟩
      · rcases HVO.out with ⟨rfl, rfl, rfl, rfl⟩ | ⟨ps, pr, rfl, rfl, hS, hR, HS, HR⟩
        · exact .inl ⟨rfl, fun _ => rfl⟩
        · exact .inr ⟨rfl, ps, pr, rfl, rfl, hR, fun w => HR (m v) (m u) w⟩
    rcases key with ⟨hput, hre⟩ | ⟨rfl, ps, pr, rfl, rfl, hR, HR⟩
    · rw [hput]
      have HP : Hid (∀ w', Below w.heap.size w w' → LP (some (.rel e (m v) (m u))) (a + Fm.len (.rel e v u)) KK w (.returned (.tuple #[.string (f.extract a (a + 1) ++ ⟨#[Fm.vb (m v)]⟩ ++ ⟨#[Fm.vb (m u)]⟩), .int .i64 ((a : Int) + 3), .bool true])) w') := fun w' hb => ret_lp HE.out (.lit (ψ := .rel e (m v) (m u)) rfl (by rw [HX1.out, hx]; apply ByteArray.ext; cases e <;> simp [tS, Fm.text, Fm.T.op, ByteArray.data_append])) (by rw [← HKK.out, HLE.out, ByteArray.size_append, ByteArray.size_append, hz1]; show 3 ≤ _; omega) hb
      have HN1 := Lib.hid (fun w => HNM.out (m v) w)
      have HN2 := Lib.hid (fun w => HNM.out (m u) w)
      have hz2 : (⟨#[Fm.vb (m v)]⟩ : ByteArray).size = 1 := rfl
      have hz3 : (⟨#[Fm.vb (m u)]⟩ : ByteArray).size = 1 := rfl
      obtain ⟨s1, hs1⟩ : ∃ s, (⟨#[Fm.vb (m v)]⟩ : ByteArray) = s := ⟨_, rfl⟩
      obtain ⟨s2, hs2⟩ : ∃ s, (⟨#[Fm.vb (m u)]⟩ : ByteArray) = s := ⟨_, rfl⟩
      rw [hs1] at HP HN1 hz2
      rw [hs2] at HP HN2 hz3
      clear hs1 hs2 hput hop HOP HVO
      unfold mapV viewsV
      cases e
      · clear hre
        replace hx : f[a] = 61 := hx
        go_enter Tryd.func120, Tryd.ntmps120
        go_wp2_with fail
        have q1 := fun s => Since.cell bxv s
        have q2 := fun s => Since.cell bxu s
        refine wp_region_since (by kernel_rfl) (by kernel_rfl) ?_
        repeat (go_big_quiet_step (first | (with_reducible exact Since.call (HV1.out _)) | (with_reducible exact Since.call (HV2.out _))))
        refine wpQuiet_nil ?_
        intro w1 hb1
        have HL1 := Lib.hid (HLN.out.below hb1)
        clear hb1 q1 q2 bxv bxu bS bR bl
        obtain ⟨bx, bS, bR, bl⟩ := HL1.out.cells
        clear bx
        go_wp2_with fail
        refine wp_region_since (by kernel_rfl) (by kernel_rfl) ?_
        repeat (go_big_quiet_step (first | (with_reducible exact Since.call (HN1.out _)) | (with_reducible exact Since.call (HN2.out _))))
        refine wpQuiet_nil ?_
        intro w2 hb2
        have HB2 := Lib.hid (HL1.out.old.trans (hb2.mono HL1.out.old.size))
        clear hb2
        go_wp2_with fail
        go_ret3
        exact HP.out _ HB2.out
      · obtain rfl := hre rfl
        clear hre
        replace hx : f[a] = 69 := hx
        go_enter Tryd.func120, Tryd.ntmps120
        go_wp2_with fail
        have q1 := fun s => Since.cell bxv s
        have q2 := fun s => Since.cell bxu s
        refine wp_region_since (by kernel_rfl) (by kernel_rfl) ?_
        repeat (go_big_quiet_step (first | (with_reducible exact Since.call (HV1.out _)) | (with_reducible exact Since.call (HV2.out _))))
        refine wpQuiet_nil ?_
        intro w1 hb1
        have HL1 := Lib.hid (HLN.out.below hb1)
        clear hb1 q1 q2 bxv bxu bS bR bl
        obtain ⟨bx, bS, bR, bl⟩ := HL1.out.cells
        clear bx
        go_wp2_with fail
        refine wp_region_since (by kernel_rfl) (by kernel_rfl) ?_
        repeat (go_big_quiet_step (first | (with_reducible exact Since.call (HN1.out _)) | (with_reducible exact Since.call (HN2.out _))))
        refine wpQuiet_nil ?_
        intro w2 hb2
        have HB2 := Lib.hid (HL1.out.old.trans (hb2.mono HL1.out.old.size))
        clear hb2
        go_wp2_with fail
        go_ret3
        exact HP.out _ HB2.out
    · have HC := Lib.hid HR
      have HP : Hid (∀ w' s b, LR (Fm.put pr (Fm.fput (Fm.fput id 1 (m u)) 0 (m v))) s b → s.size ≤ 4000 → Below w.heap.size w w' → LP (Fm.putG (some (ps, pr)) (.rel true v u) m) (a + Fm.len (.rel true v u)) KK w (.returned (.tuple #[.string s, .int .i64 ((a : Int) + 3), .bool b])) w') := fun w' s b h hs hb => ret_lp HE.out h (by rw [← HKK.out, HLE.out]; omega) hb
      have hR2 : ¬ R.toList = [] := by intro h; rw [h] at hR; cases hR
      clear HR hop HOP HVO
      replace hx : f[a] = 69 := hx
      unfold mapV viewsV
      go_enter Tryd.func120, Tryd.ntmps120
      go_wp2_with fail
      have q1 := fun s => Since.cell bxv s
      have q2 := fun s => Since.cell bxu s
      refine wp_region_since (by kernel_rfl) (by kernel_rfl) ?_
      repeat (go_big_quiet_step (first | (with_reducible exact Since.call (HV1.out _)) | (with_reducible exact Since.call (HV2.out _))))
      refine wpQuiet_nil ?_
      intro w1 hb1
      have HL1 := Lib.hid (HLN.out.below hb1)
      clear hb1 q1 q2 bxv bxu bS bR bl
      obtain ⟨bx, bS, bR, bl⟩ := HL1.out.cells
      clear bx
      go_wp2_with fail
      obtain ⟨E, hE⟩ := HC.out w1
      refine hE.mono ?_; rintro e w3 ⟨s, b, rfl, hr, hs, hb3⟩
      have HPP := Lib.hid (HP.out _ s b hr hs (HL1.out.old.trans (hb3.mono HL1.out.old.size)))
      clear hb3 hE hr hs
      go_wp2_with fail
      go_ret3
      exact HPP.out
  | neg g ih =>
    intro z a m w hz hA
    subst hz
    obtain ⟨hlt, hx⟩ := byte_eq hA.head
    have haI : (0 : Int) ≤ (a : Int) := by omega
    have HLN := Lib.hid (Ln.first w m S R)
    have hx1 := ext_one hlt
    have hz1 : (f.extract a (a + 1)).size = 1 := by rw [hx1, tS_size]; rfl
    have hltI : (a : Int) + 1 ≤ (f.size : Int) := by omega
    obtain ⟨KK, hKK⟩ : ∃ n, K * Fm.len (.neg g) = n := ⟨_, rfl⟩
    rw [hKK]
    have HKK := Lib.hid hKK
    clear hKK
    have HLG : Hid (Fm.len (.neg g) = 1 + Fm.len g) := by show _ = _; simp [Fm.len, Fm.text]; omega
    have hle : a + (1 + Fm.len g) ≤ f.size := by have h := hA.le; rw [HLG.out] at h; simpa using h
    have HC := Lib.hid (fun w => ih ((a : Int) + 1) (a + 1) m w (by omega) hA.neg)
    have HKG : Hid (K * Fm.len g + K = KK) := by show _ = _; rw [← HKK.out, HLG.out, Nat.mul_add, Nat.mul_one]; omega
    have hKL : K * Fm.len g ≤ 4000 * 1000000 := Nat.mul_le_mul hK.2 (by omega)
    have HP : Hid (∀ w' s b, LR (Fm.putG V g m) s b → s.size ≤ K * Fm.len g → Below w.heap.size w w' → LP (Fm.putG V (.neg g) m) (a + Fm.len (.neg g)) KK w (.returned (.tuple #[.string (⟨#[33]⟩ ++ s), .int .i64 ((a + 1 + Fm.len g : Nat) : Int), .bool b])) w') := fun w' s b h hs hb => ret_lp (by rw [HLG.out]; omega) (h.map .neg (fun ψ hψ => by rw [hψ]; apply ByteArray.ext; simp [tS, Fm.text, ByteArray.data_append])) (by rw [ByteArray.size_append, ← HKG.out]; show 1 + _ ≤ _; omega) hb
    replace hx : f[a] = 33 := hx
    obtain ⟨W, hW⟩ : ∃ W, (w.alloc (.cells (mapC m) 144)).alloc (.cells #[.string S, .string R] 146) = W := ⟨_, rfl⟩
    rw [hW] at HLN
    unfold mapC at hW
    have HW := Lib.hid hW
    clear hW
    obtain ⟨bx, bS, bR, bl⟩ := HLN.out.cells
    have bx0 : W.cell? ⟨w.heap.size, 0, none⟩ = some (.int .i64 (((m 0).val : Nat) : Int)) := bx 0
    have bx1 : W.cell? ⟨w.heap.size, 1, none⟩ = some (.int .i64 (((m 1).val : Nat) : Int)) := bx 1
    have bx2 : W.cell? ⟨w.heap.size, 2, none⟩ = some (.int .i64 (((m 2).val : Nat) : Int)) := bx 2
    have bx3 : W.cell? ⟨w.heap.size, 3, none⟩ = some (.int .i64 (((m 3).val : Nat) : Int)) := bx 3
    clear bx
    clear hA ih hx1 hz1
    generalize K * Fm.len g = KG at *
    generalize (a + 1 + Fm.len g) = E at *
    unfold mapV viewsV at HC
    unfold mapV viewsV
    go_enter Tryd.func120, Tryd.ntmps120
    go_upto_region 1 with fail
    rw [HW.out]
    go_wp2_with fail
    refine (HC.out _).mono ?_; rintro e w3 ⟨s, b, rfl, hr, hs, hb3⟩
    have HPP := Lib.hid (HP.out _ s b hr hs (HLN.out.old.trans (hb3.mono HLN.out.old.size)))
    have hcat : ¬ 9223372036854775807 < (⟨#[33]⟩ : ByteArray).size + s.size := by show ¬ _ < 1 + _; omega
    clear hb3 hr
    go_wp2_with fail
    go_ret3
    exact HPP.out
  | bin o g h ih1 ih2 =>
    intro z a m w hz hA
    subst hz
    obtain ⟨hlt, hx⟩ := byte_eq hA.head
    have haI : (0 : Int) ≤ (a : Int) := by omega
    have HLN := Lib.hid (Ln.first w m S R)
    have hx1 := ext_one hlt
    have hz1 : (f.extract a (a + 1)).size = 1 := by rw [hx1, tS_size]; rfl
    have hltI : (a : Int) + 1 ≤ (f.size : Int) := by omega
    obtain ⟨KK, hKK⟩ : ∃ n, K * Fm.len (.bin o g h) = n := ⟨_, rfl⟩
    rw [hKK]
    have HKK := Lib.hid hKK
    clear hKK
    have HLG : Hid (Fm.len (.bin o g h) = 1 + Fm.len g + Fm.len h) := by show _ = _; simp [Fm.len, Fm.text]; omega
    have hle : a + (1 + Fm.len g + Fm.len h) ≤ f.size := by have h := hA.le; rw [HLG.out] at h; simpa using h
    have HC1 := Lib.hid (fun w => ih1 ((a : Int) + 1) (a + 1) m w (by omega) hA.bin1)
    have HC2 := Lib.hid (fun w => ih2 ((a + 1 + Fm.len g : Nat) : Int) (a + 1 + Fm.len g) m w rfl hA.bin2)
    have HKG : Hid (K * Fm.len g + K * Fm.len h + K = KK) := by show _ = _; rw [← HKK.out, HLG.out, Nat.mul_add, Nat.mul_add, Nat.mul_one]; omega
    have hKL : K * Fm.len g ≤ 4000 * 1000000 := Nat.mul_le_mul hK.2 (by omega)
    have hKL2 : K * Fm.len h ≤ 4000 * 1000000 := Nat.mul_le_mul hK.2 (by omega)
    have HP : Hid (∀ w' s b s2 b2, LR (Fm.putG V g m) s b → LR (Fm.putG V h m) s2 b2 → s.size ≤ K * Fm.len g → s2.size ≤ K * Fm.len h → Below w.heap.size w w' → LP (Fm.putG V (.bin o g h) m) (a + Fm.len (.bin o g h)) KK w (.returned (.tuple #[.string (f.extract a (a + 1) ++ s ++ s2), .int .i64 ((a + 1 + Fm.len g + Fm.len h : Nat) : Int), .bool (b && b2)])) w') := fun w' s b s2 b2 h1 h2 hs hs2 hb => ret_lp (by rw [HLG.out]; omega) (LR.two (fun x y => .bin o x y) h1 h2 (fun ψ χ hψ hχ => by rw [hψ, hχ, hx1, hx]; apply ByteArray.ext; cases o <;> simp [tS, Fm.text, Fm.T.op, ByteArray.data_append])) (by rw [ByteArray.size_append, ByteArray.size_append, ← HKG.out, hz1]; omega) hb
    obtain ⟨W, hW⟩ : ∃ W, (w.alloc (.cells (mapC m) 144)).alloc (.cells #[.string S, .string R] 146) = W := ⟨_, rfl⟩
    rw [hW] at HLN
    unfold mapC at hW
    have HW := Lib.hid hW
    clear hW
    obtain ⟨bx, bS, bR, bl⟩ := HLN.out.cells
    have bx0 : W.cell? ⟨w.heap.size, 0, none⟩ = some (.int .i64 (((m 0).val : Nat) : Int)) := bx 0
    have bx1 : W.cell? ⟨w.heap.size, 1, none⟩ = some (.int .i64 (((m 1).val : Nat) : Int)) := bx 1
    have bx2 : W.cell? ⟨w.heap.size, 2, none⟩ = some (.int .i64 (((m 2).val : Nat) : Int)) := bx 2
    have bx3 : W.cell? ⟨w.heap.size, 3, none⟩ = some (.int .i64 (((m 3).val : Nat) : Int)) := bx 3
    clear bx
    clear hA ih1 ih2 hx1
    generalize K * Fm.len g = KG at *
    generalize K * Fm.len h = KH at *
    generalize hE1 : (a + 1 + Fm.len g + Fm.len h) = E2 at *
    generalize hE2 : (a + 1 + Fm.len g) = E at *
    clear hE1 hE2
    unfold mapV viewsV at HC1 HC2
    unfold mapV viewsV
    cases o
    all_goals
      replace hx : f[a] = _ := hx
      simp only [Fm.T.op] at hx
      go_enter Tryd.func120, Tryd.ntmps120
      go_upto_region 1 with fail
      rw [HW.out]
      go_wp2_with fail
      refine (HC1.out _).mono ?_; rintro e w3 ⟨s, b, rfl, hr, hs, hb3⟩
      have HL3 := Lib.hid (HLN.out.below hb3)
      have HR1 := Lib.hid hr
      clear hb3 hr bS bR bl bx0 bx1 bx2 bx3
      obtain ⟨bx, bS, bR, bl⟩ := HL3.out.cells
      have bx0 : w3.cell? ⟨w.heap.size, 0, none⟩ = some (.int .i64 (((m 0).val : Nat) : Int)) := bx 0
      have bx1 : w3.cell? ⟨w.heap.size, 1, none⟩ = some (.int .i64 (((m 1).val : Nat) : Int)) := bx 1
      have bx2 : w3.cell? ⟨w.heap.size, 2, none⟩ = some (.int .i64 (((m 2).val : Nat) : Int)) := bx 2
      have bx3 : w3.cell? ⟨w.heap.size, 3, none⟩ = some (.int .i64 (((m 3).val : Nat) : Int)) := bx 3
      clear bx
      go_wp2_with fail
      refine (HC2.out _).mono ?_; rintro e w4 ⟨s2, b2, rfl, hr2, hs2, hb4⟩
      have HPP := Lib.hid (HP.out _ s b s2 b2 HR1.out hr2 hs hs2 (HL3.out.old.trans (hb4.mono HL3.out.old.size)))
      have hcat : ¬ 9223372036854775807 < (f.extract a (a + 1)).size + s.size := by rw [hz1]; omega
      have hcat2 : ¬ 9223372036854775807 < (f.extract a (a + 1) ++ s).size + s2.size := by rw [ByteArray.size_append, hz1]; omega
      clear hb4 hr2 bS bR bl bx0 bx1 bx2 bx3
      cases b
      all_goals
        go_wp2_with fail
        go_ret3
        exact HPP.out
  | qu q v g ih =>
    intro z a m w hz hA
    subst hz
    obtain ⟨hlt, hx⟩ := byte_eq hA.head
    have haI : (0 : Int) ≤ (a : Int) := by omega
    have HLN := Lib.hid (Ln.first w m S R)
    have hx1 := ext_one hlt
    have hz1 : (f.extract a (a + 1)).size = 1 := by rw [hx1, tS_size]; rfl
    have hltI : (a : Int) + 1 ≤ (f.size : Int) := by omega
    obtain ⟨KK, hKK⟩ : ∃ n, K * Fm.len (.qu q v g) = n := ⟨_, rfl⟩
    rw [hKK]
    have HKK := Lib.hid hKK
    clear hKK
    have HLG : Hid (Fm.len (.qu q v g) = 2 + Fm.len g) := by show _ = _; simp [Fm.len, Fm.text]; omega
    have hle : a + (2 + Fm.len g) ≤ f.size := by have h := hA.le; rw [HLG.out] at h; simpa using h
    have HV1 := Lib.hid (fun w => HV.out ((a : Int) + 1) (a + 1) w (by omega))
    rw [hA.qv] at HV1
    have HFR : Hid (∀ w, Calls Tryd.prog 118 #[.string f, .int .i64 ((a : Int) + 2)] w fun e w' => e = .returned (.tuple #[.int .i64 ((Fm.free g : Nat) : Int), .int .i64 ((a + 2 + Fm.len g : Nat) : Int)]) ∧ w' = w) := fun w => l2Free_any f hf g ((a : Int) + 2) (a + 2) w (by omega) hA.qu
    have hfr := Fm.free_lt g
    have HFS := Lib.hid (fun w => l11Fresh_any v (Fm.free g) hfr m w)
    have HC := Lib.hid (fun m w => ih ((a : Int) + 2) (a + 2) m w (by omega) hA.qu)
    have HKG : Hid (K * Fm.len g + 2 * K = KK) := by show _ = _; rw [← HKK.out, HLG.out, Nat.mul_add]; omega
    have hKL : K * Fm.len g ≤ 4000 * 1000000 := Nat.mul_le_mul hK.2 (by omega)
    have hv4 : (v.val : Int) < 4 ∧ (0 : Int) ≤ (v.val : Int) := by have := v.isLt; omega
    have HPN : Hid (Fm.fresh v (Fm.free g) m = none → ∀ w', Below w.heap.size w w' → LP (Fm.putG V (.qu q v g) m) (a + Fm.len (.qu q v g)) KK w (.returned (.tuple #[.string ⟨#[]⟩, .int .i64 ((a + 2 + Fm.len g : Nat) : Int), .bool false])) w') := fun hn w' hb => ret_lp (by rw [HLG.out]; omega) (.inl ⟨Fm.putG_qu_none hn, rfl⟩) (Nat.zero_le _) hb
    have HPS : Hid (∀ u', Fm.fresh v (Fm.free g) m = some u' → ∀ w' s b, LR (Fm.putG V g (Fm.fput m v u')) s b → s.size ≤ K * Fm.len g → Below w.heap.size w w' → LP (Fm.putG V (.qu q v g) m) (a + Fm.len (.qu q v g)) KK w (.returned (.tuple #[.string (f.extract a (a + 1) ++ ⟨#[Fm.vb u']⟩ ++ s), .int .i64 ((a + 2 + Fm.len g : Nat) : Int), .bool b])) w') := fun u' hu w' s b h hs hb => ret_lp (by rw [HLG.out]; omega) (by
      have e : Fm.putG V (.qu q v g) m = (Fm.putG V g (Fm.fput m v u')).map (.qu q u') := by simp [Fm.putG, hu]
      rw [e]
      exact h.map (.qu q u') (fun ψ hψ => by rw [hψ, hx1, hx]; apply ByteArray.ext; simp [tS, Fm.text, Fm.T.op, ByteArray.data_append])) (by rw [ByteArray.size_append, ByteArray.size_append, ← HKG.out, hz1]; show 1 + 1 + _ ≤ _; omega) hb
    obtain ⟨W, hW⟩ : ∃ W, (w.alloc (.cells (mapC m) 144)).alloc (.cells #[.string S, .string R] 146) = W := ⟨_, rfl⟩
    rw [hW] at HLN
    unfold mapC at hW
    have HW := Lib.hid hW
    clear hW
    obtain ⟨bx, bS, bR, bl⟩ := HLN.out.cells
    have bx0 : W.cell? ⟨w.heap.size, 0, none⟩ = some (.int .i64 (((m 0).val : Nat) : Int)) := bx 0
    have bx1 : W.cell? ⟨w.heap.size, 1, none⟩ = some (.int .i64 (((m 1).val : Nat) : Int)) := bx 1
    have bx2 : W.cell? ⟨w.heap.size, 2, none⟩ = some (.int .i64 (((m 2).val : Nat) : Int)) := bx 2
    have bx3 : W.cell? ⟨w.heap.size, 3, none⟩ = some (.int .i64 (((m 3).val : Nat) : Int)) := bx 3
    clear bx
    clear hA ih hx1
    generalize K * Fm.len g = KG at *
    generalize (a + 2 + Fm.len g) = E at *
    unfold viewsV mapV at HC
    unfold mapV at HFS
    unfold mapV viewsV
    have hfi : (Fm.fresh v (Fm.free g) m = none ∧ Fm.freshI v (Fm.free g) m = -1) ∨ ∃ u', Fm.fresh v (Fm.free g) m = some u' ∧ Fm.freshI v (Fm.free g) m = ((u'.val : Nat) : Int) := by
      unfold Fm.freshI
      cases h : Fm.fresh v (Fm.free g) m with
      | none => exact .inl ⟨rfl, rfl⟩
      | some u' => exact .inr ⟨u', rfl, rfl⟩
    generalize Fm.free g = fr at *
    cases q
    all_goals
      replace hx : f[a] = _ := hx
      simp only [Fm.T.op, Fm.Q.byte] at hx
      rcases hfi with ⟨hn, hi⟩ | ⟨u', hu, hi⟩
      · rw [hi] at HFS
        have HPN1 := Lib.hid (HPN.out hn)
        clear hn hi HPS HPN
        go_enter Tryd.func120, Tryd.ntmps120
        go_upto_region 1 with fail
        rw [HW.out]
        go_wp2_with fail
        refine (HV1.out _).mono ?_; rintro e w2 ⟨rfl, hb2⟩
        have HL2 := Lib.hid (HLN.out.below hb2)
        clear hb2 bS bR bl bx0 bx1 bx2 bx3
        obtain ⟨bx, bS, bR, bl⟩ := HL2.out.cells
        have bx0 : w2.cell? ⟨w.heap.size, 0, none⟩ = some (.int .i64 (((m 0).val : Nat) : Int)) := bx 0
        have bx1 : w2.cell? ⟨w.heap.size, 1, none⟩ = some (.int .i64 (((m 1).val : Nat) : Int)) := bx 1
        have bx2 : w2.cell? ⟨w.heap.size, 2, none⟩ = some (.int .i64 (((m 2).val : Nat) : Int)) := bx 2
        have bx3 : w2.cell? ⟨w.heap.size, 3, none⟩ = some (.int .i64 (((m 3).val : Nat) : Int)) := bx 3
        clear bx
        go_wp2_with fail
        refine (HFR.out _).mono ?_; rintro e wv ⟨rfl, hwv⟩; rw [hwv]; clear hwv wv
        go_wp2_with fail
        refine (HFS.out _).mono ?_; rintro e w3 ⟨rfl, hb3⟩
        have HB3 := Lib.hid (HL2.out.old.trans (hb3.mono HL2.out.old.size))
        clear hb3
        go_wp2_with fail
        go_ret3
        exact HPN1.out _ HB3.out
      · rw [hi] at HFS
        have HPS1 := Lib.hid (HPS.out u' hu)
        have HN1 := Lib.hid (fun w => HNM.out u' w)
        have hz2 : (⟨#[Fm.vb u']⟩ : ByteArray).size = 1 := rfl
        have HCU := Lib.hid (HC.out (Fm.fput m v u'))
        have hu4 : (u'.val : Int) < 4 ∧ (0 : Int) ≤ (u'.val : Int) := by have := u'.isLt; omega
        obtain ⟨s1, hs1⟩ : ∃ s, (⟨#[Fm.vb u']⟩ : ByteArray) = s := ⟨_, rfl⟩
        rw [hs1] at HPS1 HN1 hz2
        clear hs1 hu hi HPS HPN HC
        go_enter Tryd.func120, Tryd.ntmps120
        go_upto_region 1 with fail
        rw [HW.out]
        go_wp2_with fail
        refine (HV1.out _).mono ?_; rintro e w2 ⟨rfl, hb2⟩
        have HL2 := Lib.hid (HLN.out.below hb2)
        clear hb2 bS bR bl bx0 bx1 bx2 bx3
        obtain ⟨bx, bS, bR, bl⟩ := HL2.out.cells
        have bx0 : w2.cell? ⟨w.heap.size, 0, none⟩ = some (.int .i64 (((m 0).val : Nat) : Int)) := bx 0
        have bx1 : w2.cell? ⟨w.heap.size, 1, none⟩ = some (.int .i64 (((m 1).val : Nat) : Int)) := bx 1
        have bx2 : w2.cell? ⟨w.heap.size, 2, none⟩ = some (.int .i64 (((m 2).val : Nat) : Int)) := bx 2
        have bx3 : w2.cell? ⟨w.heap.size, 3, none⟩ = some (.int .i64 (((m 3).val : Nat) : Int)) := bx 3
        clear bx
        go_wp2_with fail
        refine (HFR.out _).mono ?_; rintro e wv ⟨rfl, hwv⟩; rw [hwv]; clear hwv wv
        go_wp2_with fail
        refine (HFS.out _).mono ?_; rintro e w3 ⟨rfl, hb3⟩
        have HL3 := Lib.hid (HL2.out.below hb3)
        have HL4 := Lib.hid (HL3.out.setv v u')
        clear hb3 bS bR bl bx0 bx1 bx2 bx3
        have acl := HL3.out.cells.1 v
        have afr : w3.frozen? ⟨w.heap.size, v.val, none⟩ = false := by simp [World.frozen?, HL3.out.map]
        have bl := HL3.out.cells.2.2.2
        obtain ⟨W4, hW4⟩ : ∃ W, w3.setCell ⟨w.heap.size, v.val, none⟩ (.int .i64 ((u'.val : Nat) : Int)) = W := ⟨_, rfl⟩
        rw [hW4] at HL4
        have HW4 := Lib.hid hW4
        clear hW4
        go_upto_region 28 with fail
        rw [HW4.out]
        clear acl afr bl
        obtain ⟨bx, bS, bR, bl⟩ := HL4.out.cells
        have bx0 : W4.cell? ⟨w.heap.size, 0, none⟩ = some (.int .i64 ((((Fm.fput m v u') 0).val : Nat) : Int)) := bx 0
        have bx1 : W4.cell? ⟨w.heap.size, 1, none⟩ = some (.int .i64 ((((Fm.fput m v u') 1).val : Nat) : Int)) := bx 1
        have bx2 : W4.cell? ⟨w.heap.size, 2, none⟩ = some (.int .i64 ((((Fm.fput m v u') 2).val : Nat) : Int)) := bx 2
        have bx3 : W4.cell? ⟨w.heap.size, 3, none⟩ = some (.int .i64 ((((Fm.fput m v u') 3).val : Nat) : Int)) := bx 3
        clear bx
        go_wp2_with fail
        refine (HCU.out _).mono ?_; rintro e w5 ⟨s, b, rfl, hr, hs, hb5⟩
        have HPP := Lib.hid (fun w' hb => HPS1.out w' s b hr hs hb)
        have HL5 := Lib.hid (HL4.out.old.trans (hb5.mono HL4.out.old.size))
        have hcat : ¬ 9223372036854775807 < (f.extract a (a + 1)).size + s1.size := by rw [hz1, hz2]; omega
        have hcat2 : ¬ 9223372036854775807 < (f.extract a (a + 1) ++ s1).size + s.size := by rw [ByteArray.size_append, hz1, hz2]; omega
        clear hb5 hr bS bR bl bx0 bx1 bx2 bx3
        go_wp2_with fail
        refine wp_region_since (by kernel_rfl) (by kernel_rfl) ?_
        repeat (go_big_quiet_step ((with_reducible exact Since.call (HN1.out _))))
        refine wpQuiet_nil ?_
        intro w6 hb6
        have HB6 := Lib.hid (HL5.out.trans (hb6.mono HL5.out.size))
        clear hb6
        go_wp2_with fail
        go_ret3
        exact HPP.out _ HB6.out
end Go.Proofs.YtjepegkbbbebkaaDoor
