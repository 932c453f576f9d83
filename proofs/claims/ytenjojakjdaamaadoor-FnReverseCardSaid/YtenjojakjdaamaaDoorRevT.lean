/- Plainly: structures of the same shape are not told apart; a sentence that is turned is true of the turned word exactly if the sentence is of the word. No condition beyond those that each states. -/
import Derived.Test.YtenjojakjdaamaaDoorNumW
import Derived.Test.YtenjojakjdaamaaDoorRevS
import Derived.Test.YtenjojakjdaamaaDoorRank
namespace Go.Proofs.YtenjojakjdaamaaDoor
open Go.RowKit
set_option linter.unusedVariables false

namespace Gs
/-- Two structures of the same shape, there and back. -/
structure Iso (a b : St) (p q : Nat → Nat) : Prop where
  fwd : ∀ x, x < a.n → p x < b.n
  back : ∀ y, y < b.n → q y < a.n
  bt : ∀ x, x < a.n → q (p x) = x
  tb : ∀ y, y < b.n → p (q y) = y
  s : ∀ x, x < a.n → a.s x = b.s (p x)
  r : ∀ x y, x < a.n → y < a.n → a.r x y = b.r (p x) (p y)
theorem Iso.still {a b : St} {p q : Nat → Nat} (h : Iso a b p q) {L : List Nat} {x : Nat} (ha : ∀ y ∈ L, y < a.n) (hx : x < a.n) : Gs.still a L b (L.map p) x (p x) = true := by
  refine still_iff.2 ⟨h.s x hx, h.r x x hx hx, fun pr hp => ?_⟩
  have e : pr.1 ∈ L ∧ pr.2 = p pr.1 := by
    obtain ⟨i, hi, rfl⟩ := List.mem_iff_getElem.1 hp
    simp
  have hp1 := ha _ e.1
  rw [e.2]
  refine ⟨⟨fun e => by rw [e], fun e => ?_⟩, h.r _ _ hp1 hx, h.r _ _ hx hp1⟩
  rw [← h.bt _ hp1, e, h.bt _ hx]
theorem Iso.atoms {a b : St} {p q : Nat → Nat} (h : Iso a b p q) : ∀ (n : Nat) (L : List Nat), L.length = n → (∀ y ∈ L, y < a.n) → Gs.atoms a L = Gs.atoms b (L.map p) := by
  intro n
  induction n with
  | zero => intro L hl _; obtain rfl := List.eq_nil_of_length_eq_zero hl; rfl
  | succ n ih =>
    intro L hl ha
    rcases list_snoc L with rfl | ⟨L, x, rfl⟩
    · simp at hl
    · rw [List.map_append]
      exact (atoms_snoc_iff (by simp)).2 ⟨ih L (by simpa using hl) (fun y hy => ha y (by simp [hy])), h.still (fun y hy => ha y (by simp [hy])) (ha x (by simp))⟩
theorem Iso.eqv {a b : St} {p q : Nat → Nat} (h : Iso a b p q) : ∀ {k : Nat} {L : List Nat}, (∀ y ∈ L, y < a.n) → Eqv k a L b (L.map p)
  | 0, L, ha => h.atoms _ L rfl ha
  | k + 1, L, ha => by
    have more : ∀ x, x < a.n → ∀ y ∈ L ++ [x], y < a.n := by
      intro x hx y hy
      rcases List.mem_append.1 hy with hy | hy
      · exact ha y hy
      · simp at hy; omega
    refine ⟨h.atoms _ L rfl ha, fun x hx => ⟨p x, h.fwd x hx, ?_⟩, fun y hy => ⟨q y, h.back y hy, ?_⟩⟩
    · have := h.eqv (k := k) (more x hx)
      rw [List.map_append] at this
      exact this
    · have := h.eqv (k := k) (more (q y) (h.back y hy))
      rw [List.map_append] at this
      simpa [h.tb y hy] using this
end Gs

namespace Fm
/-- The turned formula. -/
def swap : T → T
  | .lit b => .lit b
  | .set v => .set v
  | .rel true v w => .rel true w v
  | .rel false v w => .rel false v w
  | .neg f => .neg (swap f)
  | .bin o f g => .bin o (swap f) (swap g)
  | .qu q v f => .qu q v (swap f)
theorem putV_swap : ∀ φ : T, putV (.set 0) (.rel true 1 0) φ id = some (swap φ)
  | .lit b => rfl
  | .set v => rfl
  | .rel true v w => rfl
  | .rel false v w => rfl
  | .neg f => by simp only [putV]; rw [putV_swap f]; rfl
  | .bin o f g => by simp only [putV]; rw [putV_swap f, putV_swap g]; rfl
  | .qu q v f => by
    simp only [putV]
    rw [fresh_id]
    show (putV _ _ f (fput id v v)).map _ = _
    rw [fput_id, putV_swap f]; rfl
theorem swap_swap : ∀ φ : T, swap (swap φ) = φ
  | .lit b => rfl
  | .set v => rfl
  | .rel true v w => rfl
  | .rel false v w => rfl
  | .neg f => by simp only [swap]; rw [swap_swap f]
  | .bin o f g => by simp only [swap]; rw [swap_swap f, swap_swap g]
  | .qu q v f => by simp only [swap]; rw [swap_swap f]
theorem free_swap : ∀ φ : T, free (swap φ) = free φ
  | .lit b => rfl
  | .set v => rfl
  | .rel true v w => Nat.or_comm _ _
  | .rel false v w => rfl
  | .neg f => free_swap f
  | .bin o f g => by simp only [swap, free]; rw [free_swap f, free_swap g]
  | .qu q v f => by simp only [swap, free]; rw [free_swap f]
theorem rank_swap : ∀ φ : T, rank (swap φ) = rank φ
  | .lit b => rfl
  | .set v => rfl
  | .rel true v w => rfl
  | .rel false v w => rfl
  | .neg f => rank_swap f
  | .bin o f g => by simp only [swap, rank]; rw [rank_swap f, rank_swap g]
  | .qu q v f => by simp only [swap, rank]; rw [rank_swap f]
theorem len_swap : ∀ φ : T, (text (swap φ)).length = (text φ).length
  | .lit b => rfl
  | .set v => rfl
  | .rel true v w => rfl
  | .rel false v w => rfl
  | .neg f => by simp only [swap, text, List.length_cons]; rw [len_swap f]
  | .bin o f g => by simp only [swap, text, List.length_cons, List.length_append]; rw [len_swap f, len_swap g]
  | .qu q v f => by simp only [swap, text, List.length_cons]; rw [len_swap f]
end Fm

theorem readB_text {ψ : Fm.T} (h : (Fm.text ψ).length ≤ 4000) : readB (txtS (Fm.text ψ)) = some ψ := by
  unfold readB txtS
  exact Fm.read_iff.2 ⟨by simp, by simpa using h⟩
theorem rvRes_some {f : ByteArray} {χ : Fm.T} (h : readB f = some χ) (h0 : Fm.free χ = 0) : rvRes f = some (Fm.swap χ) := by
  rw [rv_some h, if_pos h0]
  have e1 : readB ⟨#[80, 97]⟩ = some (.set 0) := Fm.read_iff.2 ⟨rfl, by decide⟩
  have e2 : readB ⟨#[69, 98, 97]⟩ = some (.rel true 1 0) := Fm.read_iff.2 ⟨rfl, by decide⟩
  have e3 : viewB ⟨#[80, 97]⟩ ⟨#[69, 98, 97]⟩ = some (.set 0, .rel true 1 0) := by
    rw [viewB_some e1 e2, if_pos (by decide)]
  rw [pb_some h e3, Fm.putG_some, Fm.putV_swap]
theorem txt_of {f : ByteArray} {χ : Fm.T} (h : readB f = some χ) : txtS (Fm.text χ) = f := by
  have := (read_len h).2
  rw [← this]; unfold txtS; rfl

/-- The first letters of a word, turned. -/
def revTo (w : ByteArray) : Nat → ByteArray
  | 0 => ⟨#[]⟩
  | i + 1 => w.extract i (i + 1) ++ revTo w i
theorem revTo_list (w : ByteArray) : ∀ i, i ≤ w.size → (revTo w i).data.toList = (w.data.toList.take i).reverse
  | 0, _ => rfl
  | i + 1, h => by
    have hl : i < w.data.toList.length := by simp; omega
    have e : (w.extract i (i + 1)).data.toList = [w.data.toList[i]] := by
      rw [ByteArray.data_extract, Array.toList_extract]
      simp [List.take_one]
    show (w.extract i (i + 1) ++ revTo w i).data.toList = _
    rw [ByteArray.data_append, Array.toList_append, e, revTo_list w i (by omega), List.take_succ_eq_append_getElem hl, List.reverse_append]
    rfl
theorem revTo_size (w : ByteArray) (i : Nat) (h : i ≤ w.size) : (revTo w i).size = i := by
  have := congrArg List.length (revTo_list w i h)
  simpa [Nat.min_eq_left h] using this
theorem rev_list (w : ByteArray) : (revTo w w.size).data.toList = w.data.toList.reverse := by
  rw [revTo_list w _ (Nat.le_refl _), List.take_of_length_le (by simp)]
theorem rev_word {w : ByteArray} (h : wordB w = true) : wordB (revTo w w.size) = true := by
  unfold wordB at h ⊢
  rw [rev_list, revTo_size w _ (Nat.le_refl _), List.all_reverse]
  exact h
theorem rev_let {w : ByteArray} {x : Nat} (h : x < w.size) : letB (revTo w w.size) (w.size - 1 - x) = letB w x := by
  unfold letB
  rw [rev_list]
  have h1 : w.size - 1 - x < w.data.toList.reverse.length := by simp; omega
  have h2 : x < w.data.toList.length := by simpa using h
  rw [List.getD_eq_getElem?_getD, List.getD_eq_getElem?_getD, List.getElem?_eq_getElem h1, List.getElem?_eq_getElem h2, List.getElem_reverse]
  have e : w.data.toList.length - 1 - (w.size - 1 - x) = x := by simp; omega
  simp only [e]
theorem oneAt_bitsR (f : Nat → Bool) (n x : Nat) (h : x < n) : oneAt (bitsOf f n) x = f x := by
  unfold oneAt bitsOf
  have e : ((List.range n).map fun i => bit (f i)).getD x 0 = bit (f x) := by simp [h]
  show (((List.range n).map fun i => bit (f i)).toArray.toList.getD x 0 == 49) = f x
  rw [List.toList_toArray, e]
  cases f x <;> rfl
theorem relAt_gridR (f : Nat → Nat → Bool) (n x y : Nat) (hx : x < n) (hy : y < n) : relAt n (gridOf f n) x y = f x y := by
  unfold relAt gridOf
  have h : (x + 1) * n ≤ n * n := Nat.mul_le_mul_right _ (by omega)
  rw [Nat.succ_mul] at h
  rw [oneAt_bitsR _ _ _ (by omega)]
  have e1 : (x * n + y) / n = x := by
    rw [Nat.add_comm, Nat.add_mul_div_right _ _ (by omega), Nat.div_eq_of_lt hy]; omega
  have e2 : (x * n + y) % n = y := by
    rw [Nat.add_comm, Nat.add_mul_mod_self_right, Nat.mod_eq_of_lt hy]
  rw [e1, e2]
theorem rev_iso (w : ByteArray) : Gs.Iso (wSt' w) (Fm.view (wSt' (revTo w w.size)) (.set 0) (.rel true 1 0)) (fun x => w.size - 1 - x) (fun x => w.size - 1 - x) := by
  have hz := revTo_size w _ (Nat.le_refl w.size)
  have hn : (Fm.view (wSt' (revTo w w.size)) (.set 0) (.rel true 1 0)).n = w.size := hz
  refine ⟨fun x (hx : x < w.size) => ?_, fun y hy => ?_, fun x (hx : x < w.size) => ?_, fun y hy => ?_, fun x (hx : x < w.size) => ?_, fun x y (hx : x < w.size) (hy : y < w.size) => ?_⟩
  · rw [hn]; show w.size - 1 - x < w.size; omega
  · rw [hn] at hy; show w.size - 1 - y < w.size; omega
  · show w.size - 1 - (w.size - 1 - x) = x; omega
  · rw [hn] at hy; show w.size - 1 - (w.size - 1 - y) = y; omega
  · show oneAt (bitsOf (letB w) w.size) x = oneAt (bitsOf (letB (revTo w w.size)) (revTo w w.size).size) (w.size - 1 - x)
    rw [hz, oneAt_bitsR _ _ _ hx, oneAt_bitsR _ _ _ (by omega), rev_let hx]
  · show relAt w.size (gridOf ltB w.size) x y = relAt (revTo w w.size).size (gridOf ltB (revTo w w.size).size) (w.size - 1 - y) (w.size - 1 - x)
    rw [hz, relAt_gridR _ _ _ _ hx hy, relAt_gridR _ _ _ _ (by omega) (by omega)]
    unfold ltB
    rw [decide_eq_decide]; omega
theorem rev_true {w : ByteArray} {χ : Fm.T} (h0 : Fm.free χ = 0) : Fm.holds (wSt' (revTo w w.size)) (Fm.swap χ) (fun _ => 0) = Fm.holds (wSt' w) χ (fun _ => 0) := by
  have h1 : Fm.Upto 1 (.set 0) := by unfold Fm.Upto; decide
  have h2 : Fm.Upto 2 (.rel true 1 0) := by unfold Fm.Upto; decide
  rw [Fm.holds_putV _ h1 h2 χ (Fm.putV_swap χ)]
  exact (Fm.holds_eqv χ ((rev_iso w).eqv (k := Fm.rank χ) (L := []) (by simp)) (Nat.le_refl _) (fun u hu => by rw [h0] at hu; simp at hu)).symm

/-- What is known of a sentence that is turned. -/
structure RevOk (f g : ByteArray) : Prop where
  turn : shortV (rvRes f) = .tuple #[.string g, .bool true]
  size : g.size = f.size
  back : shortV (rvRes g) = .tuple #[.string f, .bool true]
  rank : rankV g = rankV f
  acc : ∀ w, wordB w = true → accW g (revTo w w.size) = accW f w ∧ (accW f w).2 = true
theorem rev_is (f : ByteArray) : shortV (rvRes f) = .tuple #[.string ⟨#[]⟩, .bool false] ∨ ∃ g, RevOk f g := by
  cases hr : readB f with
  | none => left; rw [rv_none hr]; rfl
  | some χ =>
    by_cases h0 : Fm.free χ = 0
    · right
      have hl := read_len hr
      have hs := Fm.len_swap χ
      have h0' : Fm.free (Fm.swap χ) = 0 := by rw [Fm.free_swap]; exact h0
      have hg : readB (txtS (Fm.text (Fm.swap χ))) = some (Fm.swap χ) := readB_text (by omega)
      refine ⟨txtS (Fm.text (Fm.swap χ)), ?_, ?_, ?_, ?_, fun w hw => ?_⟩
      · rw [rvRes_some hr h0]
        show (if _ then _ else _) = _
        rw [if_pos (by omega)]
      · have e : f.size = (Fm.text χ).length := by rw [← hl.2]; simp
        rw [e, ← hs]
        show ((Fm.text (Fm.swap χ)).toArray).size = _
        simp
      · rw [rvRes_some hg h0', Fm.swap_swap]
        show (if _ then _ else _) = _
        rw [if_pos hl.1, txt_of hr]
      · unfold rankV; rw [hg, hr]
        show (Fm.rank (Fm.swap χ) : Int) = (Fm.rank χ : Int)
        rw [Fm.rank_swap]
      · have ea : ∀ {f : ByteArray} {φ : Fm.T} {s : ByteArray}, wordB s = true → readB f = some φ → Fm.free φ = 0 → accW f s = (Fm.holds (wSt' s) φ (fun _ => 0), true) := by
          intro f φ s hw hr h0
          unfold accW hin
          rw [if_pos hw, hr]; simp only [h0, if_true]; rfl
        rw [ea (rev_word hw) hg h0', ea hw hr h0, rev_true h0]
        exact ⟨rfl, rfl⟩
    · left; rw [rv_some hr, if_neg h0]; rfl
end Go.Proofs.YtenjojakjdaamaaDoor
