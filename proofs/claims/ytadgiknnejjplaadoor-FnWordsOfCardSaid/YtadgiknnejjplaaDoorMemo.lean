/- What the program's holder keeps: the truths of formulas that it has found. No condition. -/
import Derived.Test.YtadgiknnejjplaaDoorMapP
import Derived.Test.YtadgiknnejjplaaDoorFmGo
namespace Go.Proofs.YtadgiknnejjplaaDoor
open Go.RowKit
set_option linter.unusedVariables false

namespace Fm
def eAt (e : Env) (i : Nat) : Nat := if h : i < 4 then e ⟨i, h⟩ else 0
/-- The number of the elements of some variables. -/
def keyTo (s : Nat) (e : Env) : Nat → Nat
  | 0 => 0
  | i + 1 => if s / 2 ^ i % 2 = 1 then keyTo s e i + eAt e i * 8 ^ i else keyTo s e i
theorem eAt_lt {e : Env} (h : ∀ v, e v < 8) (i : Nat) : eAt e i < 8 := by
  unfold eAt; split
  · exact h _
  · omega
theorem keyTo_lt {s : Nat} {e : Env} (h : ∀ v, e v < 8) : ∀ i, keyTo s e i < 8 ^ i
  | 0 => by simp [keyTo]
  | i + 1 => by
    have h1 := keyTo_lt (s := s) h i
    have h2 := eAt_lt h i
    have h3 : eAt e i * 8 ^ i ≤ 7 * 8 ^ i := Nat.mul_le_mul_right _ (by omega)
    rw [Nat.pow_succ]
    unfold keyTo
    split <;> omega
theorem key_inj {s : Nat} {e e' : Env} (h : ∀ v, e v < 8) (h' : ∀ v, e' v < 8) (hk : keyTo s e 4 = keyTo s e' 4) (u : Fin 4) (hu : s.testBit u.val = true) : e u = e' u := by
  have step : ∀ i, keyTo s e (i + 1) = keyTo s e' (i + 1) → keyTo s e i = keyTo s e' i ∧ (s / 2 ^ i % 2 = 1 → eAt e i = eAt e' i) := by
    intro i hi
    have a := keyTo_lt (s := s) h i
    have b := keyTo_lt (s := s) h' i
    unfold keyTo at hi
    by_cases hb : s / 2 ^ i % 2 = 1
    · rw [if_pos hb, if_pos hb] at hi
      generalize keyTo s e i = x at *
      generalize keyTo s e' i = y at *
      generalize eAt e i = p at *
      generalize eAt e' i = q at *
      have hx : x = (x + p * 8 ^ i) % 8 ^ i := by rw [Nat.add_mul_mod_self_right, Nat.mod_eq_of_lt a]
      have hy : y = (y + q * 8 ^ i) % 8 ^ i := by rw [Nat.add_mul_mod_self_right, Nat.mod_eq_of_lt b]
      have hxy : x = y := by rw [hx, hy, hi]
      refine ⟨hxy, fun _ => ?_⟩
      rw [hxy] at hi
      have h0 : p * 8 ^ i = q * 8 ^ i := by omega
      exact Nat.eq_of_mul_eq_mul_right (Nat.pow_pos (by decide)) h0
    · rw [if_neg hb, if_neg hb] at hi
      exact ⟨hi, fun h => absurd h hb⟩
  have s3 := step 3 hk
  have s2 := step 2 s3.1
  have s1 := step 1 s2.1
  have s0 := step 0 s1.1
  rw [Nat.testBit_eq_decide_div_mod_eq, decide_eq_true_iff] at hu
  have hE : ∀ (e : Env) (u : Fin 4), eAt e u.val = e u := fun e u => by unfold eAt; rw [dif_pos u.isLt]
  rw [← hE e u, ← hE e' u]
  match u, hu with
  | 0, hu => exact s0.2 hu
  | 1, hu => exact s1.2 hu
  | 2, hu => exact s2.2 hu
  | 3, hu => exact s3.2 hu
/-- One more variable's element. -/
theorem key_or {s : Nat} {e : Env} (h : ∀ v, e v < 8) (i : Nat) (hb : s / 2 ^ i % 2 = 1) : keyTo s e i ||| eAt e i * 8 ^ i = keyTo s e (i + 1) := by
  have a := keyTo_lt (s := s) h i
  have e8 : (8 : Nat) ^ i = 2 ^ (3 * i) := by rw [Nat.pow_mul]
  have := Nat.two_pow_add_eq_or_of_lt (i := 3 * i) (b := keyTo s e i) (by rw [← e8]; exact a) (eAt e i)
  rw [Nat.or_comm, e8, Nat.mul_comm, ← this, ← e8]
  show _ = if s / 2 ^ i % 2 = 1 then keyTo s e i + eAt e i * 8 ^ i else keyTo s e i
  rw [if_pos hb, Nat.mul_comm, Nat.add_comm]
theorem key_not {s : Nat} {e : Env} (i : Nat) (hb : ¬ s / 2 ^ i % 2 = 1) : keyTo s e (i + 1) = keyTo s e i := by
  show (if s / 2 ^ i % 2 = 1 then keyTo s e i + eAt e i * 8 ^ i else keyTo s e i) = _
  rw [if_neg hb]
def keyN (φ : T) (e : Env) : Nat := keyTo (free φ) e 4
/-- A number tells whether the formula is true. -/
theorem key_holds (a : Gs.St) (φ : T) {e e' : Env} (h : ∀ v, e v < 8) (h' : ∀ v, e' v < 8) (hk : keyN φ e = keyN φ e') : holds a φ e = holds a φ e' :=
  holds_congr a φ fun u hu => key_inj h h' hk u hu
end Fm

/-- What is known of one formula: its entries are right. -/
def Known (w : World) (a : Gs.St) (φ : Fm.T) (r : Nat) : Prop := ∃ es clock, w.heap[r]? = some (.map es clock) ∧ ∀ y ∈ es.toList, ∃ (k : Nat) (b : Bool), y.key = .int .i64 (k : Int) ∧ y.val = .bool b ∧ ∀ e : Fm.Env, (∀ v, e v < 8) → Fm.keyN φ e = k → b = Fm.holds a φ e
/-- The map of what is known, in the blocks G; the formulas' trees are in the blocks F. -/
structure Memo (F G : Nat → Prop) (w : World) (kb : Nat) (a : Gs.St) : Prop where
  own : G kb
  lt : ∀ b, G b → b < w.heap.size
  flt : ∀ b, F b → b < w.heap.size
  apart : ∀ b, F b → ¬ G b
  map : ∃ es clock, w.heap[kb]? = some (.map es clock) ∧ (∀ x ∈ es.toList, ∃ (p r : Nat) (φ : Fm.T), x.key = ptrV p ∧ x.val = .map (some r) ∧ Tree F w φ p ∧ G r ∧ r ≠ kb ∧ Known w a φ r) ∧ ∀ x ∈ es.toList, ∀ y ∈ es.toList, x.val = y.val → x.key = y.key
theorem Known.kept {w w' : World} {a : Gs.St} {φ : Fm.T} {r : Nat} (h : Known w a φ r) (hr : w'.heap[r]? = w.heap[r]?) : Known w' a φ r := by
  obtain ⟨es, clock, h1, h2⟩ := h
  exact ⟨es, clock, hr.trans h1, h2⟩
theorem Memo.off {F G H : Nat → Prop} {w w' : World} {kb : Nat} {a : Gs.St} (h : Memo F G w kb a) (hw : Off H w w') (hF : ∀ b, F b → ¬ H b) (hG : ∀ b, G b → ¬ H b) : Memo F G w' kb a := by
  obtain ⟨es, clock, h1, h2, h3⟩ := h.map
  refine ⟨h.own, fun b hb => Nat.lt_of_lt_of_le (h.lt b hb) hw.size, fun b hb => Nat.lt_of_lt_of_le (h.flt b hb) hw.size, h.apart, es, clock, (hw.block kb (h.lt _ h.own) (hG _ h.own)).trans h1, fun x hx => ?_, h3⟩
  obtain ⟨p, r, φ, e1, e2, t, g, n, k⟩ := h2 x hx
  exact ⟨p, r, φ, e1, e2, t.off hw hF, g, n, k.kept (hw.block r (h.lt _ g) (hG _ g))⟩
theorem Memo.below {F G : Nat → Prop} {w w' : World} {kb : Nat} {a : Gs.St} (h : Memo F G w kb a) (hw : Below w.heap.size w w') : Memo F G w' kb a :=
  h.off (H := fun _ => False) (Off.of_below hw) (fun _ _ h => h) (fun _ _ h => h)
theorem Tree.ptr {F : Nat → Prop} {w : World} {φ : Fm.T} {p : Nat} (h : Tree F w φ p) : PtrTo w (ptrV p) p := by
  obtain ⟨v, u, qs, nd, _⟩ := h.node
  exact ⟨rfl, _, _, nd.cell⟩
theorem RowF.uniq {F F' : Nat → Prop} {w : World} {e e' : TypeId} {v : Value} {xs ys : List Value} (h : RowF F w e v xs) (h' : RowF F' w e' v ys) : xs = ys := by
  obtain ⟨a, cap, e1, _, _, c1⟩ := h.view
  obtain ⟨a', cap', e2, _, _, c2⟩ := h'.view
  rw [e1] at e2
  injection e2 with e3 e4 _
  refine List.ext_getElem e4 fun j hj hj' => ?_
  obtain ⟨g, e5, _, _, k1⟩ := c1 (by omega)
  obtain ⟨g', e6, _, _, k2⟩ := c2 (by omega)
  rw [e5, e6] at e3
  injection e3 with e3; injection e3 with e3
  have k := (k1 j hj).symm.trans (e3 ▸ k2 j hj')
  rw [List.getElem?_eq_getElem hj, List.getElem?_eq_getElem hj'] at k
  exact Option.some.inj k
theorem Nd.inj {F F' : Nat → Prop} {w : World} {p : Nat} {op op' : UInt8} {vs vs' : List (Fin 4)} {qs qs' : List Nat} {fr al fr' al' : Nat} {v u v' u' : Value} (h : Nd F w p op vs qs fr al v u) (h' : Nd F' w p op' vs' qs' fr' al' v' u') :
    op = op' ∧ vs = vs' ∧ qs = qs' := by
  have e := h.cell.symm.trans h'.cell
  injection e with e; injection e with e _ _
  have e0 := congrArg (fun c : Array Value => c.getD 0 undef) e
  have e1 := congrArg (fun c : Array Value => c.getD 1 undef) e
  have e2 := congrArg (fun c : Array Value => c.getD 2 undef) e
  have e0 : Value.int .u8 (op.toNat : Int) = .int .u8 (op'.toNat : Int) := e0
  have e1 : v = v' := e1
  have e2 : u = u' := e2
  injection e0 with _ e0
  subst e1; subst e2
  refine ⟨UInt8.toNat_inj.1 (by omega), ?_, ?_⟩
  · have hm : vs.map vbV = vs'.map vbV := h.vars.uniq h'.vars
    exact (List.map_inj_right (fun x y (hxy : vbV x = vbV y) => by unfold vbV at hxy; injection hxy with _ hxy; exact Fin.ext (by omega))).1 hm
  · have hm : qs.map ptrV = qs'.map ptrV := h.parts.uniq h'.parts
    exact (List.map_inj_right (fun x y (hxy : ptrV x = ptrV y) => by unfold ptrV at hxy; injection hxy with hxy; injection hxy with hxy; injection hxy)).1 hm
theorem Fm.T.eta : ∀ φ : Fm.T, φ = Fm.build φ.op φ.vs φ.ps
  | .lit b => by cases b <;> rfl
  | .set _ => rfl
  | .rel e _ _ => by cases e <;> rfl
  | .neg _ => rfl
  | .bin o _ _ => by cases o <;> rfl
  | .qu q _ _ => by cases q <;> rfl
theorem Tree.inj {F F' : Nat → Prop} {w : World} : ∀ (n : Nat) {φ ψ : Fm.T} {p : Nat}, Fm.len φ ≤ n → Tree F w φ p → Tree F' w ψ p → φ = ψ
  | 0, φ, _, _, hn, _, _ => absurd (Fm.text_pos φ) (by unfold Fm.len at hn; omega)
  | n + 1, φ, ψ, p, hn, h, h' => by
    obtain ⟨v, u, qs, nd, ts⟩ := h.node
    obtain ⟨v', u', qs', nd', ts'⟩ := h'.node
    obtain ⟨e1, e2, e3⟩ := nd.inj nd'
    subst e3
    have hp : φ.ps = ψ.ps := by
      have parts : ∀ (fs gs : List Fm.T) (qs : List Nat), (∀ f ∈ fs, Fm.len f ≤ n) → Trees F w fs qs → Trees F' w gs qs → fs = gs := by
        intro fs
        induction fs with
        | nil =>
          intro gs qs _ t t'
          have h1 := t.length
          have h2 := t'.length
          cases gs with
          | nil => rfl
          | cons g gs =>
            simp only [List.length_nil, List.length_cons] at h1 h2
            omega
        | cons f fs ih =>
          intro gs qs hl t t'
          cases qs with
          | nil => exact t.elim
          | cons q qs =>
            cases gs with
            | nil => exact t'.elim
            | cons g gs =>
              rw [Tree.inj n (hl f (by simp)) t.1 t'.1, ih gs qs (fun x hx => hl x (by simp [hx])) t.2 t'.2]
      refine parts _ _ qs (fun f hf => ?_) ts ts'
      unfold Fm.len at hn ⊢
      cases φ <;> simp [Fm.T.ps] at hf
      all_goals first | (subst hf; simp [Fm.text] at hn; omega) | (rcases hf with rfl | rfl <;> (simp [Fm.text] at hn; omega))
    rw [φ.eta, ψ.eta, e1, e2, hp]
end Go.Proofs.YtadgiknnejjplaaDoor
