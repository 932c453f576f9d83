/- Contracts of the program's functions and what they compute: part 35. Conditions: those that each theorem states. -/
import Derived.Test.YtdcnpjekmnlgjaaGreatDoorP56n22
import Derived.Test.YtdcnpjekmnlgjaaGreatDoorP56n34
import Derived.Test.YtdcnpjekmnlgjaaGreatDoorP56n15
import Derived.Test.YtdcnpjekmnlgjaaGreatDoorP56n27
import Derived.Test.YtdcnpjekmnlgjaaGreatDoorP56n29
import Derived.Test.YtdcnpjekmnlgjaaGreatDoorP56n31
import Derived.Test.YtdcnpjekmnlgjaaGreatDoorP56n33
namespace Go.Proofs.YtdcnpjekmnlgjaaGreatDoor
open Go.RowKit
set_option linter.unusedVariables false
set_option maxRecDepth 100000
/-- Whether a text is a formula that is true of elements, and whether it is a formula. -/
def holF (f : ByteArray) (a : Gs.St) (e : Fm.Env) : Bool × Bool :=
  match readB f with
  | none => (false, false)
  | some φ => (Fm.holds a φ e, true)
end Go.Proofs.YtdcnpjekmnlgjaaGreatDoor

namespace Go.Proofs.YtdcnpjekmnlgjaaGreatDoor
open Go.RowKit
set_option linter.unusedVariables false
namespace Fm
/-- It hangs on the structure's elements alone. -/
theorem holds_ext {a b : Gs.St} (hn : a.n = b.n) (hs : ∀ x, x < a.n → a.s x = b.s x) (hr : ∀ x y, x < a.n → y < a.n → a.r x y = b.r x y) : ∀ (φ : T) (e : Env), (∀ v, e v < a.n) → holds a φ e = holds b φ e
  | .lit b, e, _ => rfl
  | .set v, e, h => hs _ (h v)
  | .rel true v w, e, h => hr _ _ (h v) (h w)
  | .rel false v w, e, _ => rfl
  | .neg f, e, h => by simp only [holds]; rw [holds_ext hn hs hr f e h]
  | .bin true f g, e, h => by simp only [holds]; rw [holds_ext hn hs hr f e h, holds_ext hn hs hr g e h]
  | .bin false f g, e, h => by simp only [holds]; rw [holds_ext hn hs hr f e h, holds_ext hn hs hr g e h]
  | .qu q v f, e, h => by
    simp only [holds]
    have : cnt (fun x => holds a f (upd e v x)) a.n = cnt (fun x => holds b f (upd e v x)) a.n := cnt_congr (fun x hx => holds_ext hn hs hr f (upd e v x) (fun u => by
      unfold upd
      split
      · exact hx
      · exact h u))
    rw [this, hn]
end Fm
/-- The set and the relation that two formulas define. -/
def ivS (n : Nat) (S R : ByteArray) (φ : Fm.T) : ByteArray := bitsOf (fun x => Fm.holds (stOf n S R) φ (env2 x 0)) n
def ivR (n : Nat) (S R : ByteArray) (ψ : Fm.T) : ByteArray := gridOf (fun x y => Fm.holds (stOf n S R) ψ (env2 x y)) n
theorem ivRes_some {f g : ByteArray} {n : Nat} {S R : ByteArray} {φ ψ : Fm.T} (h : viewB f g = some (φ, ψ)) : intRes f g n S R = .tuple #[strV n (ivS n S R φ) (ivR n S R ψ), .bool true] := intRes_some h
theorem oneAt_bitsI (f : Nat → Bool) (n x : Nat) (h : x < n) : oneAt (bitsOf f n) x = f x := by
  unfold oneAt bitsOf
  have e : ((List.range n).map fun i => bit (f i)).getD x 0 = bit (f x) := by simp [h]
  show (((List.range n).map fun i => bit (f i)).toArray.toList.getD x 0 == 49) = f x
  rw [List.toList_toArray, e]
  cases f x <;> rfl
theorem relAt_gridI (f : Nat → Nat → Bool) (n x y : Nat) (hx : x < n) (hy : y < n) : relAt n (gridOf f n) x y = f x y := by
  unfold relAt gridOf
  have h : (x + 1) * n ≤ n * n := Nat.mul_le_mul_right _ (by omega)
  rw [Nat.succ_mul] at h
  rw [oneAt_bitsI _ _ _ (by omega)]
  exact grid_at (r := f) hy
/-- The structure that is defined, plainly. -/
def ivSt (n : Nat) (S R : ByteArray) (φ ψ : Fm.T) : Gs.St := stOf n (ivS n S R φ) (ivR n S R ψ)
theorem env2_1 (x : Nat) : env2 x 0 = Fm.env1 x := by
  funext i
  unfold env2 Fm.env1
  split
  · rfl
  · split <;> rfl
theorem iv_s {n : Nat} {S R : ByteArray} {φ ψ : Fm.T} {x : Nat} (hx : x < n) : (ivSt n S R φ ψ).s x = Fm.holds (stOf n S R) φ (Fm.env1 x) := by
  rw [← env2_1]
  exact oneAt_bitsI _ _ _ hx
theorem iv_r {n : Nat} {S R : ByteArray} {φ ψ : Fm.T} {x y : Nat} (hx : x < n) (hy : y < n) : (ivSt n S R φ ψ).r x y = Fm.holds (stOf n S R) ψ (Fm.env2 x y) := relAt_gridI _ _ _ _ hx hy
theorem iv_holds (n : Nat) (S R : ByteArray) (φ ψ χ : Fm.T) (e : Fm.Env) (he : ∀ v, e v < n) : Fm.holds (ivSt n S R φ ψ) χ e = Fm.holds (Fm.view (stOf n S R) φ ψ) χ e :=
  Fm.holds_ext (a := ivSt n S R φ ψ) (b := Fm.view (stOf n S R) φ ψ) rfl (fun x hx => iv_s hx) (fun x y hx hy => iv_r hx hy) χ e he
theorem ok_upto1 {f : ByteArray} {φ : Fm.T} (h : readB f = some φ) (ho : okV f 2 = true) : Fm.Upto 1 φ := fun u hu => by
  rw [okV_some h, decide_eq_true_iff] at ho
  rw [upto1 ho u hu]; decide
theorem ok_upto2 {g : ByteArray} {ψ : Fm.T} (h : readB g = some ψ) (ho : okV g 4 = true) : Fm.Upto 2 ψ := fun u hu => by
  rw [okV_some h, decide_eq_true_iff] at ho
  rcases upto2 ho u hu with rfl | rfl <;> decide
theorem readB_txt {ψ : Fm.T} (h : (Fm.text ψ).length ≤ 4000) : readB (txtS (Fm.text ψ)) = some ψ := by
  unfold readB txtS
  exact Fm.read_iff.2 ⟨by simp, by simpa using h⟩
theorem rank_some {f : ByteArray} {φ : Fm.T} (h : readB f = some φ) : rankV f = (Fm.rank φ : Int) := by unfold rankV; rw [h]
theorem holF_some {f : ByteArray} {φ : Fm.T} (h : readB f = some φ) (a : Gs.St) (e : Fm.Env) : holF f a e = (Fm.holds a φ e, true) := by unfold holF; rw [h]
/-- What is known of a formula that is pulled back. -/
structure PbOk (h f g k : ByteArray) : Prop where
  turn : shortV (pbRes h f g) = .tuple #[.string k, .bool true]
  size : k.size ≤ 4000
  parts : ∃ χ φ ψ κ, readB h = some χ ∧ viewB f g = some (φ, ψ) ∧ Fm.Upto 1 φ ∧ Fm.Upto 2 ψ ∧ Fm.putV φ ψ χ id = some κ ∧ readB k = some κ
theorem pb_is (h f g : ByteArray) : shortV (pbRes h f g) = .tuple #[.string ⟨#[]⟩, .bool false] ∨ ∃ k, PbOk h f g k := by
  cases hh : readB h with
  | none => left; rw [pb_none1 hh]; rfl
  | some χ =>
    cases hv : viewB f g with
    | none => left; rw [pb_none2 hv]; rfl
    | some p =>
      obtain ⟨φ, ψ⟩ := p
      obtain ⟨r1, r2, o1, o2⟩ := pview_ok hv
      have hp := pb_some hh hv
      rw [Fm.putG_some] at hp
      cases hk : Fm.putV φ ψ χ id with
      | none => left; rw [hp, hk]; rfl
      | some κ =>
        rw [hk] at hp
        by_cases hl : (Fm.text κ).length ≤ 4000
        · right
          refine ⟨txtS (Fm.text κ), ?_, ?_, χ, φ, ψ, κ, (by first | exact hh | rfl), (by first | exact hv | rfl), ok_upto1 r1 o1, ok_upto2 r2 o2, hk, readB_txt hl⟩
          · rw [hp]
            show (if _ then _ else _) = _
            rw [if_pos hl]
          · rw [txtS_size]; exact hl
        · left; rw [hp]
          show (if _ then _ else _) = _
          rw [if_neg hl]
theorem PbOk.rank {h f g k : ByteArray} (p : PbOk h f g k) : rankV k ≤ rankV h + max (rankV f) (rankV g) := by
  obtain ⟨χ, φ, ψ, κ, h1, h2, h3, h4, h5, h6⟩ := p.parts
  obtain ⟨r1, r2, _, _⟩ := pview_ok h2
  have := Fm.rank_putV χ h5
  rw [rank_some h1, rank_some h6, rank_some r1, rank_some r2]
  omega
theorem PbOk.true_ {h f g k : ByteArray} (p : PbOk h f g k) {φ ψ : Fm.T} (hv : viewB f g = some (φ, ψ)) (n : Nat) (S R : ByteArray) (e : Fm.Env) (he : ∀ v, e v < n) : holF k (stOf n S R) e = holF h (ivSt n S R φ ψ) e := by
  obtain ⟨χ, φ', ψ', κ, h1, h2, h3, h4, h5, h6⟩ := p.parts
  rw [hv] at h2
  injection h2 with h2
  injection h2 with h2 h2'
  subst h2; subst h2'
  rw [holF_some h1, holF_some h6, iv_holds n S R φ ψ χ e he, Fm.holds_putV _ h3 h4 χ h5]
  rfl
end Go.Proofs.YtdcnpjekmnlgjaaGreatDoor
namespace Go.Proofs.YtdcnpjekmnlgjaaGreatDoor
open Go.RowKit
set_option linter.unusedVariables false
set_option maxRecDepth 100000
/-- Four elements of n that lie in a slice. -/
def Four (n : Nat) (w : World) (e : Ending) (w' : World) : Prop := ∃ v L, e = .returned v ∧ L.length = 4 ∧ (∀ j, j < L.length → L.getD j 0 < n) ∧ NumsAt w' v L ∧ Below w.heap.size w w'
theorem Four.mk {n : Nat} {w w' : World} {x y z u : Nat} {T : TypeId} (hx : x < n) (hy : y < n) (hz : z < n) (hu : u < n) (hb : Below w.heap.size w w') :
    Four n w (.returned (.slice (some ⟨w'.heap.size, 0, none⟩) 4 4)) (w'.alloc (.cells #[.int .i64 (x : Int), .int .i64 (y : Int), .int .i64 (z : Int), .int .i64 (u : Int)] T)) := by
  refine ⟨_, [x, y, z, u], rfl, rfl, ?_, .inr ⟨w'.heap.size, 0, 4, rfl, Nat.le_refl _, by decide, by simp, ?_⟩, hb.alloc hb.size _⟩
  · intro j hj
    rcases j with _ | _ | _ | _ | j
    · exact hx
    · exact hy
    · exact hz
    · exact hu
    · simp at hj; omega
  · intro j hj
    rw [Nat.zero_add, World.cell?_alloc_new]
    rcases j with _ | _ | _ | _ | j
    · rfl
    · rfl
    · rfl
    · rfl
    · simp at hj; omega
end Go.Proofs.YtdcnpjekmnlgjaaGreatDoor
