/- The walk of the law FnRelativize: it returns true. Condition: the bytes are readable. -/
import Derived.Test.YtjepegkbbbebkaaDoorIV
import Derived.Test.YtjepegkbbbebkaaDoorPullB
import Derived.Test.YtjepegkbbbebkaaDoorDrawS2
import Derived.Test.YtjepegkbbbebkaaDoorFind
import Derived.Test.YtjepegkbbbebkaaDoorPartS
/- Plainly: a formula that is relativized to another one. No condition. -/
namespace Go.Proofs.YtjepegkbbbebkaaDoor.Fm
set_option linter.unusedVariables false

/-- What a quantifier's formula becomes. -/
def gu : Q → T → T → T
  | .all, p, g => .bin true (.neg p) g
  | .some, p, g => .bin false p g
  | .two, p, g => .bin false p g
  | .three, p, g => .bin false p g
  | .four, p, g => .bin false p g
/-- A formula whose quantifiers speak of those elements alone for which another one is true. -/
def within (i : T) : T → Option T
  | .lit b => some (.lit b)
  | .set v => some (.set v)
  | .rel e v w => some (.rel e v w)
  | .neg f => (within i f).map .neg
  | .bin o f g => (within i f).bind fun a => (within i g).map fun b => .bin o a b
  | .qu q v f => (put i (fput id 0 v)).bind fun p => (within i f).map fun g => .qu q v (gu q p g)
def guH : Q → List UInt8
  | .all => [124, 33]
  | .some => [38]
  | .two => [38]
  | .three => [38]
  | .four => [38]
theorem text_gu (q : Q) (p g : T) : text (gu q p g) = guH q ++ (text p ++ text g) := by
  cases q <;> simp [gu, guH, text]
theorem text_within {i : T} (hi : (text i).length ≤ 4000) : ∀ (φ : T) {ψ : T}, within i φ = some ψ → (text ψ).length ≤ (text φ).length * 4002
  | .lit b, ψ, h => by simp [within] at h; subst h; simp [text]
  | .set v, ψ, h => by simp [within] at h; subst h; simp [text]
  | .rel e v w, ψ, h => by simp [within] at h; subst h; simp [text]
  | .neg f, ψ, h => by
    simp only [within] at h
    obtain ⟨g, h1, rfl⟩ := Option.map_eq_some_iff.1 h
    have := text_within hi f h1
    simp [text]; omega
  | .bin o f g, ψ, h => by
    simp only [within] at h
    obtain ⟨f', h1, h2⟩ := Option.bind_eq_some_iff.1 h
    obtain ⟨g', h3, rfl⟩ := Option.map_eq_some_iff.1 h2
    have := text_within hi f h1
    have := text_within hi g h3
    simp [text]; omega
  | .qu q v f, ψ, h => by
    simp only [within] at h
    obtain ⟨p, h1, h2⟩ := Option.bind_eq_some_iff.1 h
    obtain ⟨g, h3, rfl⟩ := Option.map_eq_some_iff.1 h2
    have := text_within hi f h3
    have := text_put _ h1
    have hg : (guH q).length ≤ 2 := by cases q <;> simp [guH]
    simp only [text, text_gu, List.length_cons, List.length_append]
    omega
theorem free_gu (q : Q) (p g : T) (u : Fin 4) : (free (gu q p g)).testBit u.val = ((free p).testBit u.val || (free g).testBit u.val) := by
  cases q <;> exact free_bin _ _ _ u
/-- No further variable is free. -/
theorem free_within {i : T} (hi : Upto 1 i) : ∀ (φ : T) {ψ : T}, within i φ = some ψ → ∀ u : Fin 4, (free ψ).testBit u.val = true → (free φ).testBit u.val = true
  | .lit b, ψ, h, u, hu => by simp [within] at h; subst h; exact hu
  | .set v, ψ, h, u, hu => by simp [within] at h; subst h; exact hu
  | .rel e v w, ψ, h, u, hu => by simp [within] at h; subst h; exact hu
  | .neg f, ψ, h, u, hu => by
    simp only [within] at h
    obtain ⟨g, h1, rfl⟩ := Option.map_eq_some_iff.1 h
    exact free_within hi f h1 u hu
  | .bin o f g, ψ, h, u, hu => by
    simp only [within] at h
    obtain ⟨f', h1, h2⟩ := Option.bind_eq_some_iff.1 h
    obtain ⟨g', h3, rfl⟩ := Option.map_eq_some_iff.1 h2
    rw [free_bin, Bool.or_eq_true] at hu ⊢
    exact hu.imp (free_within hi f h1 u) (free_within hi g h3 u)
  | .qu q v f, ψ, h, u, hu => by
    simp only [within] at h
    obtain ⟨p, h1, h2⟩ := Option.bind_eq_some_iff.1 h
    obtain ⟨g, h3, rfl⟩ := Option.map_eq_some_iff.1 h2
    rw [free_qu, free_gu, Bool.and_eq_true, Bool.or_eq_true, decide_eq_true_iff] at hu
    rw [free_qu, Bool.and_eq_true, decide_eq_true_iff]
    refine ⟨hu.1.elim (fun hp => ?_) (free_within hi f h3 u), hu.2⟩
    obtain ⟨x, hx, e⟩ := (free_put _ h1 u).1 hp
    have hx1 := hi x hx
    have : x = 0 := Fin.ext (by simpa using hx1)
    subst this
    exact absurd (by simpa [fput] using e) hu.2
theorem within_closed {i : T} (hi : Upto 1 i) {φ ψ : T} (h : within i φ = some ψ) (h0 : free φ = 0) : free ψ = 0 := by
  refine Nat.eq_of_testBit_eq fun k => ?_
  rw [Nat.zero_testBit]
  by_cases hk : k < 4
  · cases hb : (free ψ).testBit k with
    | false => rfl
    | true =>
      have := free_within hi φ h ⟨k, hk⟩ hb
      rw [h0, Nat.zero_testBit] at this
      cases this
  · exact Nat.testBit_lt_two_pow (Nat.lt_of_lt_of_le (free_lt ψ) (Nat.pow_le_pow_right (n := 2) (by decide) (show 4 ≤ k by omega)))
/-- The elements of a list, as a structure of their own. -/
def partG (a : Gs.St) (D : List Nat) : Gs.St := ⟨D.length, fun x => a.s (D.getD x 0), fun x y => a.r (D.getD x 0) (D.getD y 0)⟩
theorem cnt_filter (p G : Nat → Bool) : ∀ n, cnt (fun x => p x && G x) n = cnt (fun i => G (((List.range n).filter p).getD i 0)) ((List.range n).filter p).length
  | 0 => rfl
  | n + 1 => by
    have ih := cnt_filter p G n
    rw [List.range_succ, List.filter_append]
    show cnt (fun x => p x && G x) n + _ = _
    cases hp : p n
    · have e : [n].filter p = [] := by simp [hp]
      rw [e, List.append_nil, ih]
      simp [hp]
    · have e : [n].filter p = [n] := by simp [hp]
      rw [e, List.length_append]
      show _ = cnt _ (((List.range n).filter p).length) + _
      rw [ih]
      have c : cnt (fun i => G (((List.range n).filter p ++ [n]).getD i 0)) ((List.range n).filter p).length = cnt (fun i => G (((List.range n).filter p).getD i 0)) ((List.range n).filter p).length := cnt_congr fun i hi => by
        simp [List.getElem?_append_left hi]
      rw [c]
      simp [hp]
theorem range_filter_mem {p : Nat → Bool} {n x : Nat} (hx : x < n) (hp : p x = true) : ∃ i, i < ((List.range n).filter p).length ∧ ((List.range n).filter p).getD i 0 = x := by
  obtain ⟨i, hi, e⟩ := List.mem_iff_getElem.1 (List.mem_filter.2 ⟨List.mem_range.2 hx, hp⟩)
  exact ⟨i, hi, by rw [List.getD_eq_getElem?_getD, List.getElem?_eq_getElem hi]; exact e⟩
theorem range_filter_at {p : Nat → Bool} {n i : Nat} (hi : i < ((List.range n).filter p).length) : ((List.range n).filter p).getD i 0 < n ∧ p (((List.range n).filter p).getD i 0) = true := by
  have := List.mem_filter.1 (List.getElem_mem hi)
  rw [List.getD_eq_getElem?_getD, List.getElem?_eq_getElem hi]
  exact ⟨List.mem_range.1 this.1, this.2⟩
theorem put_in {i p : T} (hi : Upto 1 i) {v : Fin 4} (h : put i (fput id 0 v) = some p) (a : Gs.St) (e : Env) : holds a p e = holds a i (env1 (e v)) := by
  rw [holds_put a i h e]
  refine holds_congr a i fun u hu => ?_
  have := hi u hu
  have : u = 0 := Fin.ext (by simpa using this)
  subst this
  simp [fput, env1]
/-- A relativized formula is true of a part's elements exactly if the formula is true of them in the part. -/
theorem holds_within (a : Gs.St) {i : T} (hi : Upto 1 i) : ∀ (φ : T) {ψ : T}, within i φ = some ψ → ∀ e : Env, (∀ u, e u < ((List.range a.n).filter fun x => holds a i (env1 x)).length) →
    holds a ψ (fun u => ((List.range a.n).filter fun x => holds a i (env1 x)).getD (e u) 0) = holds (partG a ((List.range a.n).filter fun x => holds a i (env1 x))) φ e
  | .lit b, ψ, h, e, he => by simp [within] at h; subst h; rfl
  | .set v, ψ, h, e, he => by simp [within] at h; subst h; rfl
  | .rel true v w, ψ, h, e, he => by simp [within] at h; subst h; rfl
  | .rel false v w, ψ, h, e, he => by
    simp [within] at h; subst h
    show decide _ = decide _
    congr 1
    rw [eq_iff_iff]
    have hn : (List.filter (fun x => holds a i (env1 x)) (List.range a.n)).Nodup := List.Pairwise.filter _ List.nodup_range
    constructor
    · intro h
      have h1 := he v
      have h2 := he w
      dsimp only at h
      rw [List.getD_eq_getElem?_getD, List.getD_eq_getElem?_getD, List.getElem?_eq_getElem h1, List.getElem?_eq_getElem h2] at h
      exact (List.getElem_inj (h₀ := h1) (h₁ := h2) hn).1 h
    · intro h; dsimp only; rw [h]
  | .neg f, ψ, h, e, he => by
    simp only [within] at h
    obtain ⟨g, h1, rfl⟩ := Option.map_eq_some_iff.1 h
    simp only [holds]; rw [holds_within a hi f h1 e he]
  | .bin o f g, ψ, h, e, he => by
    simp only [within] at h
    obtain ⟨f', h1, h2⟩ := Option.bind_eq_some_iff.1 h
    obtain ⟨g', h3, rfl⟩ := Option.map_eq_some_iff.1 h2
    cases o <;> (simp only [holds]; rw [holds_within a hi f h1 e he, holds_within a hi g h3 e he])
  | .qu q v f, ψ, h, e, he => by
    simp only [within] at h
    obtain ⟨p, h1, h2⟩ := Option.bind_eq_some_iff.1 h
    obtain ⟨g, h3, rfl⟩ := Option.map_eq_some_iff.1 h2
    have ih := holds_within a hi f h3
    have hp := put_in hi h1 a
    generalize hD : ((List.range a.n).filter fun x => holds a i (env1 x)) = D at *
    have key : ∀ j, j < D.length → holds a g (upd (fun u => D.getD (e u) 0) v (D.getD j 0)) = holds (partG a D) f (upd e v j) := fun j hj => by
      rw [← ih (upd e v j) (fun u => by unfold upd; split; exact hj; exact he u)]
      congr 1
      funext u
      unfold upd
      split <;> rfl
    have hP : ∀ x, holds a p (upd (fun u => D.getD (e u) 0) v x) = holds a i (env1 x) := fun x => by
      rw [hp]; simp [upd]
    have hsum : cnt (fun x => holds a (.bin false p g) (upd (fun u => D.getD (e u) 0) v x)) a.n = cnt (fun j => holds (partG a D) f (upd e v j)) D.length := by
      have c1 : cnt (fun x => holds a (.bin false p g) (upd (fun u => D.getD (e u) 0) v x)) a.n = cnt (fun x => holds a i (env1 x) && holds a g (upd (fun u => D.getD (e u) 0) v x)) a.n := cnt_congr fun x _ => by
        show (holds a p _ && holds a g _) = _
        rw [hP]
      rw [c1, cnt_filter, hD]
      exact cnt_congr fun j hj => key j hj
    cases q with
    | all =>
      show decide (a.n ≤ cnt (fun x => holds a (.bin true (.neg p) g) _) a.n) = decide (D.length ≤ cnt (fun j => holds (partG a D) f (upd e v j)) D.length)
      congr 1
      rw [eq_iff_iff, cnt_all, cnt_all]
      constructor
      · intro h j hj
        have hx : D.getD j 0 < a.n ∧ holds a i (env1 (D.getD j 0)) = true := by
          subst hD
          exact range_filter_at hj
        have := h _ hx.1
        rw [← key j hj]
        have e2 : (!holds a p (upd (fun u => D.getD (e u) 0) v (D.getD j 0)) || holds a g (upd (fun u => D.getD (e u) 0) v (D.getD j 0))) = true := this
        rw [hP, hx.2] at e2
        simpa using e2
      · intro h x hx
        show (!holds a p _ || holds a g _) = true
        rw [hP]
        cases hpx : holds a i (env1 x) with
        | false => rfl
        | true =>
          obtain ⟨j, hj, ej⟩ : ∃ j, j < D.length ∧ D.getD j 0 = x := by
            subst hD
            exact range_filter_mem hx hpx
          have := h j hj
          rw [← key j hj, ej] at this
          rw [this]; rfl
    | some => show decide (1 ≤ cnt (fun x => holds a (.bin false p g) _) a.n) = decide (1 ≤ cnt (fun j => holds (partG a D) f (upd e v j)) D.length); rw [← hsum]
    | two => show decide (2 ≤ cnt (fun x => holds a (.bin false p g) _) a.n) = decide (2 ≤ cnt (fun j => holds (partG a D) f (upd e v j)) D.length); rw [← hsum]
    | three => show decide (3 ≤ cnt (fun x => holds a (.bin false p g) _) a.n) = decide (3 ≤ cnt (fun j => holds (partG a D) f (upd e v j)) D.length); rw [← hsum]
    | four => show decide (4 ≤ cnt (fun x => holds a (.bin false p g) _) a.n) = decide (4 ≤ cnt (fun j => holds (partG a D) f (upd e v j)) D.length); rw [← hsum]
/-- Relativized to all elements a formula says the same. -/
theorem holds_true (a : Gs.St) : ∀ (φ : T) {ψ : T}, within (.lit true) φ = some ψ → ∀ e : Env, holds a ψ e = holds a φ e
  | .lit b, ψ, h, e => by simp [within] at h; subst h; rfl
  | .set v, ψ, h, e => by simp [within] at h; subst h; rfl
  | .rel b v w, ψ, h, e => by simp [within] at h; subst h; rfl
  | .neg f, ψ, h, e => by
    simp only [within] at h
    obtain ⟨g, h1, rfl⟩ := Option.map_eq_some_iff.1 h
    simp only [holds]; rw [holds_true a f h1]
  | .bin o f g, ψ, h, e => by
    simp only [within] at h
    obtain ⟨f', h1, h2⟩ := Option.bind_eq_some_iff.1 h
    obtain ⟨g', h3, rfl⟩ := Option.map_eq_some_iff.1 h2
    cases o <;> (simp only [holds]; rw [holds_true a f h1, holds_true a g h3])
  | .qu q v f, ψ, h, e => by
    simp only [within] at h
    obtain ⟨p, h1, h2⟩ := Option.bind_eq_some_iff.1 h
    obtain ⟨g, h3, rfl⟩ := Option.map_eq_some_iff.1 h2
    have hp : p = .lit true := (Option.some.inj h1).symm
    subst hp
    have ih := holds_true a f h3
    have c : ∀ x, holds a (gu q (.lit true) g) (upd e v x) = holds a f (upd e v x) := fun x => by
      rw [← ih]
      cases q with
      | all => show (!true || _) = _; rfl
      | some => show (true && _) = _; rfl
      | two => show (true && _) = _; rfl
      | three => show (true && _) = _; rfl
      | four => show (true && _) = _; rfl
    simp only [holds]
    rw [cnt_congr (fun x _ => c x)]
end Go.Proofs.YtjepegkbbbebkaaDoor.Fm
/- Relativize of the program. Condition: the texts' lengths fit an integer. -/
namespace Go.Proofs.YtjepegkbbbebkaaDoor
open Go.RowKit
set_option linter.unusedVariables false
set_option maxRecDepth 100000

namespace Fm
/-- How the text of what is relativized comes of those of the parts. -/
structure WFacts (i : T) (ps : List T) (hd : List UInt8) (R : Option T) : Prop where
  no : ∀ f ∈ ps, within i f = none → R = none
  yes : ∀ ψs : List T, ps.map (within i) = ψs.map some → ∃ ψ, R = some ψ ∧ text ψ = hd ++ ψs.flatMap text
theorem wfacts_nil {i : T} {ψ : T} {hd : List UInt8} (h : text ψ = hd) : WFacts i [] hd (some ψ) :=
  ⟨(fun f hf => by cases hf), (fun ψs h' => by
    have : ψs = [] := by simpa using h'.symm
    subst this
    exact ⟨ψ, rfl, by simpa using h⟩)⟩
theorem wfacts_one {i : T} {f : T} {c : T → T} {hd : List UInt8} (h : ∀ a, text (c a) = hd ++ text a) : WFacts i [f] hd ((within i f).map c) := by
  refine ⟨fun g hg hn => ?_, fun ψs h' => ?_⟩
  · obtain rfl : g = f := by simpa using hg
    rw [hn]; rfl
  · have hl : ψs.length = 1 := by have := congrArg List.length h'; simpa using this.symm
    obtain ⟨a, rfl⟩ := List.length_eq_one_iff.1 hl
    have : within i f = some a := by simpa using h'
    exact ⟨c a, by rw [this]; rfl, by simp [h a]⟩
theorem wfacts_two {i : T} {f g : T} {c : T → T → T} {hd : List UInt8} (h : ∀ a b, text (c a b) = hd ++ (text a ++ text b)) : WFacts i [f, g] hd ((within i f).bind fun a => (within i g).map fun b => c a b) := by
  refine ⟨fun k hk hn => ?_, fun ψs h' => ?_⟩
  · rcases (by simpa using hk : k = f ∨ k = g) with rfl | rfl
    · rw [hn]; rfl
    · rw [hn]
      cases within i f <;> rfl
  · have hl : ψs.length = 2 := by have := congrArg List.length h'; simpa using this.symm
    obtain ⟨a, b, rfl⟩ : ∃ a b, ψs = [a, b] := by match ψs, hl with | [a, b], _ => exact ⟨a, b, rfl⟩
    have h1 : within i f = some a ∧ within i g = some b := by simpa using h'
    exact ⟨c a b, by rw [h1.1, h1.2]; rfl, by simp [h a b]⟩
theorem wfacts_plain (i : T) : ∀ φ : T, isQu φ.op = false → WFacts i φ.ps (φ.op :: φ.vs.map vb) (within i φ)
  | .lit b, _ => wfacts_nil (by simp [text, T.op, T.vs])
  | .set x, _ => wfacts_nil (by simp [text, T.op, T.vs])
  | .rel e x y, _ => wfacts_nil (by simp [text, T.op, T.vs])
  | .neg f, _ => wfacts_one (fun a => by simp [text, T.op, T.vs])
  | .bin o f g, _ => wfacts_two (fun a b => by simp [text, T.op, T.vs])
  | .qu q v f, h => absurd h (by show ¬ isQu q.byte = false; unfold isQu; rw [quOf_byte]; simp)
theorem wfacts_qu {i : T} (q : Q) (v : Fin 4) (f p : T) (hp : put i (fput id 0 v) = some p) : WFacts i [f] (q.byte :: vb v :: (guH q ++ text p)) (within i (.qu q v f)) := by
  have : within i (.qu q v f) = (within i f).map fun g => .qu q v (gu q p g) := by simp [within, hp]
  rw [this]
  exact wfacts_one (fun a => by simp [text, text_gu])
theorem within_qu_none {i : T} {q : Q} {v : Fin 4} {f : T} (h : put i (fput id 0 v) = none) : within i (.qu q v f) = none := by simp [within, h]
end Fm
/-- The text of a slice of bytes, of no bytes too. -/
theorem conv_row (W : World) (av : Option Addr) (cap : Nat) (l : List UInt8) (h : l = [] ∨ ∃ g, av = some ⟨g, 0, none⟩ ∧ ∀ j (hj : j < l.length), W.cell? ⟨g, j, none⟩ = some (.int .u8 (l[j].toNat : Int))) :
    (convert 22 9 (.slice av l.length cap)).run Tryd.prog W = .ok (.string (txtS l)) W := by
  rcases h with rfl | ⟨g, rfl, hc⟩
  · cases av with
    | none =>
      show (convert 22 9 (.slice none 0 cap)).run Tryd.prog W = .ok (.string ⟨#[]⟩) W
      rw [run_convert_bytes_string W 22 9 5 none 0 cap Tryd.underlying22 Tryd.underlying5 Tryd.underlying9]
      simp [Conv.bytesToString]
      rfl
    | some a => exact run_convert_bytes_back W 22 9 5 a cap [] Tryd.underlying22 Tryd.underlying5 Tryd.underlying9 (fun j hj => by simp at hj)
  · exact conv_bytes W g cap l hc
def RelOK (i φ : Fm.T) : Prop := ∀ (F : Nat → Prop) (w : World) (p r : Nat), Tree F w φ p → Tree F w i r →
  Calls Tryd.prog 63 #[ptrV p, ptrV r] w fun e w' => e = .returned (putVal (Fm.within i φ)) ∧ Below w.heap.size w w'
set_option maxHeartbeats 2000000 in
theorem rel_step (i : Fm.T) (hi : (Fm.text i).length ≤ 4000) (φ : Fm.T) (hφ : (Fm.text φ).length ≤ 4000) (IH : ∀ f ∈ φ.ps, RelOK i f) : RelOK i φ := by
  intro F w p r hT hI
  have HT := Lib.hid hT; have HI := Lib.hid hI
  have HIH := Lib.hid IH
  have HSZ : Hid (∀ f ∈ φ.ps, ∀ ψ, Fm.within i f = some ψ → (Fm.text ψ).length ≤ 16008000) := fun f hf ψ h => by
    have h1 := part_len hf
    have h2 := Fm.text_within hi f h
    omega
  have HPP : Hid (∀ x r', Fm.put i (Fm.fput id 0 x) = some r' → (Fm.text r').length ≤ 4000) := fun x r' h => by
    rw [Fm.text_put _ h]; exact hi
  have HPUT : Hid (∀ (x : Fin 4) (W : World), Below w.heap.size w W → Calls Tryd.prog 116 #[.agg #[.pointer none, .pointer none], .pointer (some ⟨r, 0, none⟩), .agg #[.int .u8 ((97 + x.val : Nat) : Int), .int .u8 98, .int .u8 99, .int .u8 100]] W fun e w' => e = .returned (putVal (Fm.put i (Fm.fput id 0 x))) ∧ Below W.heap.size W w') := fun x W hb => by
    have h := put_plain i hi F W r (Fm.fput id 0 x) none none (hI.below hb) (.inl ⟨rfl, rfl, rfl⟩)
    rw [Fm.putG_none] at h
    exact h
  obtain ⟨v, u, qs, nd, hts⟩ := hT.node
  have HND := Lib.hid nd; have HTS := Lib.hid hts
  have hql := hts.length
  obtain ⟨av, cv, rfl, lv, mv, hvc⟩ := nd.vars.view
  obtain ⟨ap, cp, rfl, lp, mp, hpc⟩ := nd.parts.view
  simp only [List.length_map] at lv lp hvc hpc nd
  have HVC := Lib.hid hvc; have HPC := Lib.hid hpc
  have hk2 := vs_le φ
  have hq2 := ps_le φ
  unfold maxLen at mv mp
  have cs := nd.cells
  have hpl := nd.lt
  have HCS := Lib.hid (And.intro cs.1 (And.intro cs.2.1 cs.2.2.1))
  have c0 := cs.1
  have c1 := cs.2.1
  obtain ⟨LB, hLB⟩ : ∃ l, φ.vs.map Fm.vb = l := ⟨_, rfl⟩
  have HLN : Hid (LB.length = φ.vs.length) := by show _ = _; rw [← hLB, List.length_map]
  have HCV : Hid (∀ W : World, Below w.heap.size w W → (convert 22 9 (.slice av φ.vs.length cv)).run Tryd.prog W = .ok (.string (txtS LB)) W) := fun W hb => by
    rw [← HLN.out]
    refine conv_row W av cv LB ?_
    by_cases h0 : 0 < φ.vs.length
    · obtain ⟨g, rfl, _, hg, hc⟩ := hvc h0
      refine .inr ⟨g, rfl, fun j hj => ?_⟩
      have hj2 : j < φ.vs.length := by rw [← HLN.out]; exact hj
      rw [hb.cell hg, hc j hj2]
      subst hLB
      simp [hj2, vbV, vb_nat]
    · exact .inl (List.eq_nil_of_length_eq_zero (by rw [HLN.out]; omega))
  have hpw : p < w.heap.size := hpl
  obtain ⟨OP, hOP⟩ : ∃ o, φ.op = o := ⟨_, rfl⟩
  rw [hOP] at c0
  have HB0 : Hid (Below w.heap.size w (w.alloc (.cells #[.int .u8 (OP.toNat : Int)] 5)).drew ∧ Below w.heap.size w w.drew) := ⟨((Below.refl _ _).alloc (Nat.le_refl _) _).drew, (Below.refl _ _).drew⟩
  have cA : (convert 22 9 (.slice (some ⟨w.heap.size, 0, none⟩) 1 1)).run Tryd.prog (w.alloc (.cells #[.int .u8 (OP.toNat : Int)] 5)).drew = .ok (.string (txtS [OP])) (w.alloc (.cells #[.int .u8 (OP.toNat : Int)] 5)).drew := conv_bytes _ _ 1 [OP] (fun j hj => by
    obtain rfl : j = 0 := by simpa using hj
    show (w.alloc (.cells #[.int .u8 (OP.toNat : Int)] 5)).cell? ⟨w.heap.size, 0, none⟩ = some (.int .u8 (OP.toNat : Int))
    unfold World.cell?
    rw [heap_alloc_new]; rfl)
  have cB1 := HCV.out w.drew HB0.out.2
  have cB2 := HCV.out _ HB0.out.1
  have HOE : Hid (txtS [OP] ++ txtS LB = txtS (OP :: LB)) := by
    show _ = _
    rw [txtS_app]; simp
  have HOS : Hid ((txtS [OP] ++ txtS LB).size ≤ 10) := by
    show _ ≤ _
    rw [ByteArray.size_append, txtS_size, txtS_size, HLN.out]
    have : [OP].length = 1 := rfl
    omega
  have sA : (txtS [OP]).size = 1 := rfl
  have sB : (txtS LB).size ≤ 2 := by rw [txtS_size, HLN.out]; omega
  obtain ⟨nv, hnv⟩ : ∃ n, φ.vs.length = n := ⟨_, rfl⟩
  rw [hnv] at c1 cB1 cB2 lv
  clear hT hI IH hi hφ nd hts hvc hpc cs hpl
  obtain ⟨RES, hres⟩ : ∃ r, Fm.within i φ = r := ⟨_, rfl⟩
  rw [hres]
  have HRES := Lib.hid hres
  clear hres
  unfold ptrV
  have c1' := c1
  go_enter Tryd.func63, Tryd.ntmps63
  go_upto_region 1 with fail
  go_cut [6] (fun o wx => ∃ out : ByteArray, o = .string out ∧ out.size ≤ 10 ∧ Hid (out = txtS (OP :: LB)) ∧ Hid (Below w.heap.size w wx))
  case first =>
    go_region_with (fail)
    all_goals
      go_wp2_with fail
      go_meet
      first
      | exact ⟨_, rfl, HOS.out, HOE.out, HB0.out.1⟩
      | exact ⟨_, rfl, HOS.out, HOE.out, HB0.out.2⟩
      | trace_state
  case rest =>
    obtain ⟨out0, rfl, hoz0, HO0, HBW⟩ := hcut
    clear cA cB1 cB2 HOE HOS sA sB c0 c1 c1'
    have c0 := (HBW.out.cell hpw).trans HCS.out.1
    have c1 := (HBW.out.cell hpw).trans HCS.out.2.1
    have c2 := (HBW.out.cell hpw).trans HCS.out.2.2
    have hkind : Fm.isQu φ.op = false ∨ ∃ q x f, φ = .qu q x f := by
      cases φ with
      | qu q x f => exact .inr ⟨q, x, f, rfl⟩
      | lit b => left; cases b <;> rfl
      | set x => left; rfl
      | rel e x y => left; cases e <;> rfl
      | neg f => left; rfl
      | bin o f g => left; cases o <;> rfl
    rcases hkind with hnq | ⟨q, x, f, rfl⟩
    · have HF : Hid (Fm.WFacts i φ.ps (φ.op :: φ.vs.map Fm.vb) RES) := by
        have h := Fm.wfacts_plain i φ hnq
        rw [HRES.out] at h
        exact h
      have HQU : Hid (∀ W, Below w.heap.size w W → Calls Tryd.prog 115 #[.pointer (some ⟨p, 0, none⟩)] W fun e w' => e = .returned (.bool false) ∧ W = w') := fun W hb => by
        have h := quant_any W (HND.out.kept (F' := F) (fun b _ hl => hb.block b hl) (fun _ h => h))
        rw [hnq] at h
        exact h
      rw [hLB, hOP] at HF
      obtain ⟨HD, hHD⟩ : ∃ l, OP :: LB = l := ⟨_, rfl⟩
      rw [hHD] at HF HO0
      obtain ⟨PS, hPS⟩ : ∃ l, φ.ps = l := ⟨_, rfl⟩
      rw [hPS] at HIH HSZ HTS hql hq2 HF
      have HO1 := HO0
      have HB1 := HBW
      have HQU1 := Lib.hid (HQU.out _ HBW.out)
      have hqv : qs.length = PS.length := hql.symm
      clear hLB hHD hPS hOP hnq HND HVC HCS HT HRES HPUT HPP HCV HB0 HQU hnv lv hk2 HLN hql
      go_wp2_with fail
      refine HQU1.out.mono ?_; rintro e wv ⟨rfl, hwv⟩; rw [← hwv]; clear hwv wv
      go_wp2_with fail
      go_loopw [60, 6] (fun iv o wx => ∃ k : Nat, k ≤ PS.length ∧ iv = .int .i64 (k : Int) ∧ ∃ out : ByteArray, o = .string out ∧ out.size ≤ 5000 + 16008000 * k ∧ Hid (∃ ψs : List Fm.T, (PS.take k).map (Fm.within i) = ψs.map some ∧ out = txtS (HD ++ ψs.flatMap Fm.text)) ∧ Hid (Below w.heap.size w wx)) (fun iv _ _ => PS.length - (intOf iv).toNat)
      case atStart => exact ⟨0, by omega, rfl, _, rfl, by omega, ⟨[], rfl, by rw [HO1.out]; simp⟩, HB1.out⟩
      case round =>
        obtain ⟨k, hk, rfl, out, rfl, hoz, HPS, HP⟩ := hrel
        by_cases hlt : k < PS.length
        · obtain ⟨gp, rfl, hg0, hg1, hgc⟩ := HPC.out (by omega)
          have hcq : w.cell? ⟨gp, k, none⟩ = some (ptrV (qs.getD k 0)) := by
            rw [hgc k (by omega)]
            simp [show k < qs.length by omega]
          have dq := (HP.out.cell (p := ⟨gp, k, none⟩) hg1).trans hcq
          have htk := part_at k hlt HTS.out
          obtain ⟨f1, hf⟩ : ∃ f, PS[k] = f := ⟨_, rfl⟩
          rw [hf] at htk
          have hmem : f1 ∈ PS := by rw [← hf]; exact List.getElem_mem hlt
          have HTK : Hid ((PS.take (k + 1)).map (Fm.within i) = (PS.take k).map (Fm.within i) ++ [Fm.within i f1]) := by
            show _ = _
            rw [List.take_succ_eq_append_getElem hlt, List.map_append, hf]; rfl
          have HC0 := Lib.hid (HIH.out f1 hmem F wr (qs.getD k 0) r (htk.below HP.out) (HI.out.below HP.out))
          have HSZ1 := Lib.hid (HSZ.out f1 hmem)
          have HNO := Lib.hid (HF.out.no f1 hmem)
          have hkI : (k : Int) < (PS.length : Int) := by omega
          have hkq : (k : Int) < (qs.length : Int) := by omega
          unfold ptrV at HC0 dq
          clear hgc hcq htk hf hmem
          generalize qs.getD k 0 = q1 at *
          cases hr : Fm.within i f1 with
          | none =>
            have HN1 : Hid (putVal RES = .tuple #[.string ByteArray.empty, .bool false]) := by show _ = _; rw [HNO.out hr]; rfl
            have epv : putVal none = .tuple #[.string ByteArray.empty, .bool false] := rfl
            rw [hr, epv] at HC0
            clear hr epv
            go_wp2_with fail
            refine HC0.out.mono ?_; rintro e w3 ⟨rfl, hb3⟩
            have HB3 := Lib.hid (HP.out.trans (hb3.mono HP.out.size))
            clear hb3
            go_wp2_with fail
            go_ret2
            exact ⟨congrArg Ending.returned HN1.out.symm, HB3.out⟩
          | some ψ =>
            have hsz := HSZ1.out ψ hr
            have epv : putVal (some ψ) = .tuple #[.string (txtS (Fm.text ψ)), .bool true] := rfl
            rw [hr] at HC0 HTK
            rw [epv] at HC0
            clear hr epv
            have hTz : (txtS (Fm.text ψ)).size ≤ 16008000 := by rw [txtS_size]; exact hsz
            have HPS2 : Hid (∃ ψs : List Fm.T, (PS.take (k + 1)).map (Fm.within i) = ψs.map some ∧ out ++ txtS (Fm.text ψ) = txtS (HD ++ ψs.flatMap Fm.text)) := by
              obtain ⟨ψs, h1, h2⟩ := HPS.out
              refine ⟨ψs ++ [ψ], by rw [HTK.out, h1, List.map_append]; rfl, ?_⟩
              rw [h2, txtS_app]
              simp
            clear hsz
            obtain ⟨T, hT⟩ : ∃ T, txtS (Fm.text ψ) = T := ⟨_, rfl⟩
            rw [hT] at HC0 hTz HPS2
            clear hT
            have hcat : ¬ 9223372036854775807 < out.size + T.size := by omega
            go_wp2_with fail
            refine HC0.out.mono ?_; rintro e w3 ⟨rfl, hb3⟩
            have HP3 := Lib.hid (HP.out.trans (hb3.mono HP.out.size))
            clear hb3
            go_wp2_with fail
            go_roundw
            case rel => exact ⟨k + 1, by omega, by go_num, _, rfl, by rw [ByteArray.size_append]; omega, HPS2.out, HP3.out⟩
            case measure => simp [intOf]; omega
        · have HEND : Hid (∃ ψ, RES = some ψ ∧ out = txtS (Fm.text ψ)) := by
            obtain ⟨ψs, h1, h2⟩ := HPS.out
            rw [List.take_of_length_le (by omega)] at h1
            obtain ⟨ψ, h3, h4⟩ := HF.out.yes ψs h1
            exact ⟨ψ, h3, by rw [h2, h4]⟩
          obtain ⟨ψ, hψ, ho⟩ := HEND.out
          have HPV : Hid (putVal RES = .tuple #[.string out, .bool true]) := by
            show _ = _
            rw [hψ, ho]; rfl
          have HB := Lib.hid HP.out
          have hkq : (k : Int) = (qs.length : Int) := by omega
          clear HEND hψ ho
          go_wp2_with fail
          go_ret2
          exact ⟨congrArg Ending.returned HPV.out.symm, HB.out⟩
    · have HQU : Hid (∀ W, Below w.heap.size w W → Calls Tryd.prog 115 #[.pointer (some ⟨p, 0, none⟩)] W fun e w' => e = .returned (.bool true) ∧ W = w') := fun W hb => by
        have h := quant_any W (HND.out.kept (F' := F) (fun b _ hl => hb.block b hl) (fun _ h => h))
        have e : Fm.isQu (Fm.T.qu q x f).op = true := by show Fm.isQu q.byte = true; unfold Fm.isQu; rw [Fm.quOf_byte]; rfl
        rw [e] at h
        exact h
      obtain ⟨gv, rfl, hFv, hgv, hgvc⟩ := HVC.out (by simp [Fm.T.vs])
      have hv0 : w.cell? ⟨gv, 0, none⟩ = some (.int .u8 ((97 + x.val : Nat) : Int)) := hgvc 0 (by simp [Fm.T.vs])
      have cv0 := (HBW.out.cell (p := ⟨gv, 0, none⟩) hgv).trans hv0
      have HQU1 := Lib.hid (HQU.out _ HBW.out)
      have HPW := Lib.hid (HPUT.out x _ HBW.out)
      have HFQ : Hid (∀ r', Fm.put i (Fm.fput id 0 x) = some r' → Fm.WFacts i [f] (q.byte :: Fm.vb x :: (Fm.guH q ++ Fm.text r')) RES) := fun r' h => by
        have h := Fm.wfacts_qu q x f r' h
        rw [HRES.out] at h
        exact h
      have HNF : Hid (Fm.put i (Fm.fput id 0 x) = none → putVal RES = .tuple #[.string ByteArray.empty, .bool false]) := fun h => by
        have e : RES = none := by rw [← HRES.out]; exact Fm.within_qu_none h
        rw [e]; rfl
      have hnv1 : nv = 1 := by rw [← hnv]; rfl
      subst hnv1
      replace HO0 : Hid (out0 = txtS [q.byte, Fm.vb x]) := by rw [← hLB, ← hOP] at HO0; exact HO0.out
      have HPP1 := Lib.hid (HPP.out x)
      replace c0 : wc.cell? ⟨p, 0, none⟩ = some (.int .u8 (q.byte.toNat : Int)) := c0
      replace c1 : wc.cell? ⟨p, 1, none⟩ = some (.slice (some ⟨gv, 0, none⟩) 1 cv) := c1
      have hqv0 : qs.length = 1 := hql.symm
      replace HIH : Hid (∀ f' ∈ [f], RelOK i f') := HIH.out
      replace HSZ : Hid (∀ f' ∈ [f], ∀ ψ, Fm.within i f' = some ψ → (Fm.text ψ).length ≤ 16008000) := HSZ.out
      replace HTS : Hid (Trees F w [f] qs) := HTS.out
      obtain ⟨PS, hPS⟩ : ∃ l, [f] = l := ⟨_, rfl⟩
      rw [hPS] at HIH HSZ HTS HFQ
      have hql : PS.length = qs.length := by rw [← hPS, hqv0]; rfl
      have hq2 : PS.length ≤ 2 := by rw [← hPS]; simp
      have hqv : qs.length = PS.length := hql.symm
      have hPS1 : PS.length = 1 := by rw [← hPS]; rfl
      have hzr : (97 : Int) ≤ ((97 + x.val : Nat) : Int) ∧ ((97 + x.val : Nat) : Int) ≤ 100 := by have := x.isLt; omega
      clear hLB hPS hOP HND HVC HCS HT HRES HPUT HPP HCV HB0 HQU hnv hk2 HLN hgvc hv0
      generalize ((97 + x.val : Nat) : Int) = zx at *
      obtain ⟨PR, hPR⟩ : ∃ o, Fm.put i (Fm.fput id 0 x) = o := ⟨_, rfl⟩
      rw [hPR] at HPW HFQ HNF HPP1
      clear hPR
      cases PR with
      | none =>
        have HN1 := Lib.hid (HNF.out rfl)
        have epv : putVal none = .tuple #[.string ByteArray.empty, .bool false] := rfl
        rw [epv] at HPW
        clear epv HNF HFQ HPP1
        go_wp2_with fail
        refine HQU1.out.mono ?_; rintro e wv ⟨rfl, hwv⟩; rw [← hwv]; clear hwv wv
        go_wp2_with fail
        refine HPW.out.mono ?_; rintro e w3 ⟨rfl, hb3⟩
        have HB3 := Lib.hid (HBW.out.trans (hb3.mono HBW.out.size))
        clear hb3
        go_wp2_with fail
        go_ret2
        exact ⟨congrArg Ending.returned HN1.out.symm, HB3.out⟩
      | some r' =>
        have HF0 := Lib.hid (HFQ.out r' rfl)
        have hpz := HPP1.out r' rfl
        have epv : putVal (some r') = .tuple #[.string (txtS (Fm.text r')), .bool true] := rfl
        rw [epv] at HPW
        have hTz0 : (txtS (Fm.text r')).size ≤ 4000 := by rw [txtS_size]; exact hpz
        have HOA : Hid (out0 ++ (⟨#[124, 33]⟩ ++ txtS (Fm.text r')) = txtS (q.byte :: Fm.vb x :: ([124, 33] ++ Fm.text r'))) := by
          show _ = _
          rw [HO0.out]; apply ByteArray.ext; simp [txtS, ByteArray.data_append]
        have HOB : Hid (out0 ++ (⟨#[38]⟩ ++ txtS (Fm.text r')) = txtS (q.byte :: Fm.vb x :: ([38] ++ Fm.text r'))) := by
          show _ = _
          rw [HO0.out]; apply ByteArray.ext; simp [txtS, ByteArray.data_append]
        clear epv HNF HFQ HPP1 hpz
        obtain ⟨T0, hT0⟩ : ∃ T, txtS (Fm.text r') = T := ⟨_, rfl⟩
        rw [hT0] at HPW hTz0 HOA HOB
        clear hT0
        by_cases hqa : q = .all
        · subst hqa
          replace c0 : wc.cell? ⟨p, 0, none⟩ = some (.int .u8 65) := c0
          obtain ⟨HD, hHD⟩ : ∃ l, Fm.Q.all.byte :: Fm.vb x :: ([124, 33] ++ Fm.text r') = l := ⟨_, rfl⟩
          have HF : Hid (Fm.WFacts i PS HD RES) := by rw [← hHD]; exact HF0.out
          have HO1 : Hid (out0 ++ (⟨#[124, 33]⟩ ++ T0) = txtS HD) := by rw [← hHD]; exact HOA.out
          have hz1 : (⟨#[124, 33]⟩ : ByteArray).size = 2 := rfl
          have hcat1 : ¬ 9223372036854775807 < (⟨#[124, 33]⟩ : ByteArray).size + T0.size := by rw [hz1]; omega
          have hcat2 : ¬ 9223372036854775807 < out0.size + (⟨#[124, 33]⟩ ++ T0 : ByteArray).size := by rw [ByteArray.size_append, hz1]; omega
          have hz2 : (out0 ++ (⟨#[124, 33]⟩ ++ T0)).size ≤ 5000 := by rw [ByteArray.size_append, ByteArray.size_append, hz1]; omega
          clear hHD HF0 HOA HOB HO0
          go_wp2_with fail
          refine HQU1.out.mono ?_; rintro e wv ⟨rfl, hwv⟩; rw [← hwv]; clear hwv wv
          go_wp2_with fail
          refine HPW.out.mono ?_; rintro e w3 ⟨rfl, hb3⟩
          have HB1 := Lib.hid (HBW.out.trans (hb3.mono HBW.out.size))
          replace c0 := (hb3.cell (World.block_lt_of_cell? _ _ c0)).trans c0
          replace c2 := (hb3.cell (World.block_lt_of_cell? _ _ c2)).trans c2
          clear hb3 c1 cv0
          go_wp2_with fail
          go_loopw [60, 6] (fun iv o wx => ∃ k : Nat, k ≤ PS.length ∧ iv = .int .i64 (k : Int) ∧ ∃ out : ByteArray, o = .string out ∧ out.size ≤ 5000 + 16008000 * k ∧ Hid (∃ ψs : List Fm.T, (PS.take k).map (Fm.within i) = ψs.map some ∧ out = txtS (HD ++ ψs.flatMap Fm.text)) ∧ Hid (Below w.heap.size w wx)) (fun iv _ _ => PS.length - (intOf iv).toNat)
          case atStart => exact ⟨0, by omega, rfl, _, rfl, by omega, ⟨[], rfl, by rw [HO1.out]; simp⟩, HB1.out⟩
          case round =>
            obtain ⟨k, hk, rfl, out, rfl, hoz, HPS, HP⟩ := hrel
            by_cases hlt : k < PS.length
            · obtain ⟨gp, rfl, hg0, hg1, hgc⟩ := HPC.out (by omega)
              have hcq : w.cell? ⟨gp, k, none⟩ = some (ptrV (qs.getD k 0)) := by
                rw [hgc k (by omega)]
                simp [show k < qs.length by omega]
              have dq := (HP.out.cell (p := ⟨gp, k, none⟩) hg1).trans hcq
              have htk := part_at k hlt HTS.out
              obtain ⟨f1, hf⟩ : ∃ f, PS[k] = f := ⟨_, rfl⟩
              rw [hf] at htk
              have hmem : f1 ∈ PS := by rw [← hf]; exact List.getElem_mem hlt
              have HTK : Hid ((PS.take (k + 1)).map (Fm.within i) = (PS.take k).map (Fm.within i) ++ [Fm.within i f1]) := by
                show _ = _
                rw [List.take_succ_eq_append_getElem hlt, List.map_append, hf]; rfl
              have HC0 := Lib.hid (HIH.out f1 hmem F wr (qs.getD k 0) r (htk.below HP.out) (HI.out.below HP.out))
              have HSZ1 := Lib.hid (HSZ.out f1 hmem)
              have HNO := Lib.hid (HF.out.no f1 hmem)
              have hkI : (k : Int) < (PS.length : Int) := by omega
              have hkq : (k : Int) < (qs.length : Int) := by omega
              unfold ptrV at HC0 dq
              clear hgc hcq htk hf hmem
              generalize qs.getD k 0 = q1 at *
              cases hr : Fm.within i f1 with
              | none =>
                have HN1 : Hid (putVal RES = .tuple #[.string ByteArray.empty, .bool false]) := by show _ = _; rw [HNO.out hr]; rfl
                have epv : putVal none = .tuple #[.string ByteArray.empty, .bool false] := rfl
                rw [hr, epv] at HC0
                clear hr epv
                go_wp2_with fail
                refine HC0.out.mono ?_; rintro e w3 ⟨rfl, hb3⟩
                have HB3 := Lib.hid (HP.out.trans (hb3.mono HP.out.size))
                clear hb3
                go_wp2_with fail
                go_ret2
                exact ⟨congrArg Ending.returned HN1.out.symm, HB3.out⟩
              | some ψ =>
                have hsz := HSZ1.out ψ hr
                have epv : putVal (some ψ) = .tuple #[.string (txtS (Fm.text ψ)), .bool true] := rfl
                rw [hr] at HC0 HTK
                rw [epv] at HC0
                clear hr epv
                have hTz : (txtS (Fm.text ψ)).size ≤ 16008000 := by rw [txtS_size]; exact hsz
                have HPS2 : Hid (∃ ψs : List Fm.T, (PS.take (k + 1)).map (Fm.within i) = ψs.map some ∧ out ++ txtS (Fm.text ψ) = txtS (HD ++ ψs.flatMap Fm.text)) := by
                  obtain ⟨ψs, h1, h2⟩ := HPS.out
                  refine ⟨ψs ++ [ψ], by rw [HTK.out, h1, List.map_append]; rfl, ?_⟩
                  rw [h2, txtS_app]
                  simp
                clear hsz
                obtain ⟨T, hT⟩ : ∃ T, txtS (Fm.text ψ) = T := ⟨_, rfl⟩
                rw [hT] at HC0 hTz HPS2
                clear hT
                have hcat : ¬ 9223372036854775807 < out.size + T.size := by omega
                go_wp2_with fail
                refine HC0.out.mono ?_; rintro e w3 ⟨rfl, hb3⟩
                have HP3 := Lib.hid (HP.out.trans (hb3.mono HP.out.size))
                clear hb3
                go_wp2_with fail
                go_roundw
                case rel => exact ⟨k + 1, by omega, by go_num, _, rfl, by rw [ByteArray.size_append]; omega, HPS2.out, HP3.out⟩
                case measure => simp [intOf]; omega
            · have HEND : Hid (∃ ψ, RES = some ψ ∧ out = txtS (Fm.text ψ)) := by
                obtain ⟨ψs, h1, h2⟩ := HPS.out
                rw [List.take_of_length_le (by omega)] at h1
                obtain ⟨ψ, h3, h4⟩ := HF.out.yes ψs h1
                exact ⟨ψ, h3, by rw [h2, h4]⟩
              obtain ⟨ψ, hψ, ho⟩ := HEND.out
              have HPV : Hid (putVal RES = .tuple #[.string out, .bool true]) := by
                show _ = _
                rw [hψ, ho]; rfl
              have HB := Lib.hid HP.out
              have hkq : (k : Int) = (qs.length : Int) := by omega
              clear HEND hψ ho
              go_wp2_with fail
              go_ret2
              exact ⟨congrArg Ending.returned HPV.out.symm, HB.out⟩
        · replace c0 : wc.cell? ⟨p, 0, none⟩ = some (.int .u8 (q.byte.toNat : Int)) := c0
          have hqn : ((q.byte.toNat : Int) == 65) = false := by cases q <;> first | exact absurd rfl hqa | rfl
          have hgu : Fm.guH q = [38] := by cases q <;> first | exact absurd rfl hqa | rfl
          rw [hgu] at HF0
          obtain ⟨HD, hHD⟩ : ∃ l, q.byte :: Fm.vb x :: ([38] ++ Fm.text r') = l := ⟨_, rfl⟩
          have HF : Hid (Fm.WFacts i PS HD RES) := by rw [← hHD]; exact HF0.out
          have HO1 : Hid (out0 ++ (⟨#[38]⟩ ++ T0) = txtS HD) := by rw [← hHD]; exact HOB.out
          have hz1 : (⟨#[38]⟩ : ByteArray).size = 1 := rfl
          have hcat1 : ¬ 9223372036854775807 < (⟨#[38]⟩ : ByteArray).size + T0.size := by rw [hz1]; omega
          have hcat2 : ¬ 9223372036854775807 < out0.size + (⟨#[38]⟩ ++ T0 : ByteArray).size := by rw [ByteArray.size_append, hz1]; omega
          have hz2 : (out0 ++ (⟨#[38]⟩ ++ T0)).size ≤ 5000 := by rw [ByteArray.size_append, ByteArray.size_append, hz1]; omega
          clear hHD HF0 HOA HOB HO0 hgu hqa
          generalize (q.byte.toNat : Int) = zq at *
          go_wp2_with fail
          refine HQU1.out.mono ?_; rintro e wv ⟨rfl, hwv⟩; rw [← hwv]; clear hwv wv
          go_wp2_with fail
          refine HPW.out.mono ?_; rintro e w3 ⟨rfl, hb3⟩
          have HB1 := Lib.hid (HBW.out.trans (hb3.mono HBW.out.size))
          replace c0 := (hb3.cell (World.block_lt_of_cell? _ _ c0)).trans c0
          replace c2 := (hb3.cell (World.block_lt_of_cell? _ _ c2)).trans c2
          clear hb3 c1 cv0
          go_wp2_with fail
          go_loopw [60, 6] (fun iv o wx => ∃ k : Nat, k ≤ PS.length ∧ iv = .int .i64 (k : Int) ∧ ∃ out : ByteArray, o = .string out ∧ out.size ≤ 5000 + 16008000 * k ∧ Hid (∃ ψs : List Fm.T, (PS.take k).map (Fm.within i) = ψs.map some ∧ out = txtS (HD ++ ψs.flatMap Fm.text)) ∧ Hid (Below w.heap.size w wx)) (fun iv _ _ => PS.length - (intOf iv).toNat)
          case atStart => exact ⟨0, by omega, rfl, _, rfl, by omega, ⟨[], rfl, by rw [HO1.out]; simp⟩, HB1.out⟩
          case round =>
            obtain ⟨k, hk, rfl, out, rfl, hoz, HPS, HP⟩ := hrel
            by_cases hlt : k < PS.length
            · obtain ⟨gp, rfl, hg0, hg1, hgc⟩ := HPC.out (by omega)
              have hcq : w.cell? ⟨gp, k, none⟩ = some (ptrV (qs.getD k 0)) := by
                rw [hgc k (by omega)]
                simp [show k < qs.length by omega]
              have dq := (HP.out.cell (p := ⟨gp, k, none⟩) hg1).trans hcq
              have htk := part_at k hlt HTS.out
              obtain ⟨f1, hf⟩ : ∃ f, PS[k] = f := ⟨_, rfl⟩
              rw [hf] at htk
              have hmem : f1 ∈ PS := by rw [← hf]; exact List.getElem_mem hlt
              have HTK : Hid ((PS.take (k + 1)).map (Fm.within i) = (PS.take k).map (Fm.within i) ++ [Fm.within i f1]) := by
                show _ = _
                rw [List.take_succ_eq_append_getElem hlt, List.map_append, hf]; rfl
              have HC0 := Lib.hid (HIH.out f1 hmem F wr (qs.getD k 0) r (htk.below HP.out) (HI.out.below HP.out))
              have HSZ1 := Lib.hid (HSZ.out f1 hmem)
              have HNO := Lib.hid (HF.out.no f1 hmem)
              have hkI : (k : Int) < (PS.length : Int) := by omega
              have hkq : (k : Int) < (qs.length : Int) := by omega
              unfold ptrV at HC0 dq
              clear hgc hcq htk hf hmem
              generalize qs.getD k 0 = q1 at *
              cases hr : Fm.within i f1 with
              | none =>
                have HN1 : Hid (putVal RES = .tuple #[.string ByteArray.empty, .bool false]) := by show _ = _; rw [HNO.out hr]; rfl
                have epv : putVal none = .tuple #[.string ByteArray.empty, .bool false] := rfl
                rw [hr, epv] at HC0
                clear hr epv
                go_wp2_with fail
                refine HC0.out.mono ?_; rintro e w3 ⟨rfl, hb3⟩
                have HB3 := Lib.hid (HP.out.trans (hb3.mono HP.out.size))
                clear hb3
                go_wp2_with fail
                go_ret2
                exact ⟨congrArg Ending.returned HN1.out.symm, HB3.out⟩
              | some ψ =>
                have hsz := HSZ1.out ψ hr
                have epv : putVal (some ψ) = .tuple #[.string (txtS (Fm.text ψ)), .bool true] := rfl
                rw [hr] at HC0 HTK
                rw [epv] at HC0
                clear hr epv
                have hTz : (txtS (Fm.text ψ)).size ≤ 16008000 := by rw [txtS_size]; exact hsz
                have HPS2 : Hid (∃ ψs : List Fm.T, (PS.take (k + 1)).map (Fm.within i) = ψs.map some ∧ out ++ txtS (Fm.text ψ) = txtS (HD ++ ψs.flatMap Fm.text)) := by
                  obtain ⟨ψs, h1, h2⟩ := HPS.out
                  refine ⟨ψs ++ [ψ], by rw [HTK.out, h1, List.map_append]; rfl, ?_⟩
                  rw [h2, txtS_app]
                  simp
                clear hsz
                obtain ⟨T, hT⟩ : ∃ T, txtS (Fm.text ψ) = T := ⟨_, rfl⟩
                rw [hT] at HC0 hTz HPS2
                clear hT
                have hcat : ¬ 9223372036854775807 < out.size + T.size := by omega
                go_wp2_with fail
                refine HC0.out.mono ?_; rintro e w3 ⟨rfl, hb3⟩
                have HP3 := Lib.hid (HP.out.trans (hb3.mono HP.out.size))
                clear hb3
                go_wp2_with fail
                go_roundw
                case rel => exact ⟨k + 1, by omega, by go_num, _, rfl, by rw [ByteArray.size_append]; omega, HPS2.out, HP3.out⟩
                case measure => simp [intOf]; omega
            · have HEND : Hid (∃ ψ, RES = some ψ ∧ out = txtS (Fm.text ψ)) := by
                obtain ⟨ψs, h1, h2⟩ := HPS.out
                rw [List.take_of_length_le (by omega)] at h1
                obtain ⟨ψ, h3, h4⟩ := HF.out.yes ψs h1
                exact ⟨ψ, h3, by rw [h2, h4]⟩
              obtain ⟨ψ, hψ, ho⟩ := HEND.out
              have HPV : Hid (putVal RES = .tuple #[.string out, .bool true]) := by
                show _ = _
                rw [hψ, ho]; rfl
              have HB := Lib.hid HP.out
              have hkq : (k : Int) = (qs.length : Int) := by omega
              clear HEND hψ ho
              go_wp2_with fail
              go_ret2
              exact ⟨congrArg Ending.returned HPV.out.symm, HB.out⟩
theorem rel_any (i : Fm.T) (hi : (Fm.text i).length ≤ 4000) : ∀ φ : Fm.T, (Fm.text φ).length ≤ 4000 → RelOK i φ := by
  intro φ
  induction φ with
  | lit b => intro h; exact rel_step i hi _ h (fun f hf => by cases hf)
  | set v => intro h; exact rel_step i hi _ h (fun f hf => by cases hf)
  | rel e v w => intro h; exact rel_step i hi _ h (fun f hf => by cases hf)
  | neg f ih => intro h; exact rel_step i hi _ h (fun g hg => by
      obtain rfl : g = f := by simpa [Fm.T.ps] using hg
      exact ih (Nat.le_trans (part_len hg) h))
  | bin o f g ih1 ih2 => intro h; exact rel_step i hi _ h (fun k hk => by
      rcases (by simpa [Fm.T.ps] using hk : k = f ∨ k = g) with rfl | rfl
      · exact ih1 (Nat.le_trans (part_len hk) h)
      · exact ih2 (Nat.le_trans (part_len hk) h))
  | qu q v f ih => intro h; exact rel_step i hi _ h (fun g hg => by
      obtain rfl : g = f := by simpa [Fm.T.ps] using hg
      exact ih (Nat.le_trans (part_len hg) h))
/-- What Relativize returns. -/
def relRes (h f : ByteArray) : Option Fm.T :=
  match readB h, readB f with
  | some χ, some i => if Fm.free i / 2 = 0 then Fm.within i χ else none
  | _, _ => none
theorem rr_none1 {h f : ByteArray} (e : readB h = none) : relRes h f = none := by unfold relRes; rw [e]
theorem rr_none2 {h f : ByteArray} (e : readB f = none) : relRes h f = none := by unfold relRes; rw [e]; cases readB h <;> rfl
theorem rr_some {h f : ByteArray} {χ i : Fm.T} (e : readB h = some χ) (e2 : readB f = some i) : relRes h f = if Fm.free i / 2 = 0 then Fm.within i χ else none := by unfold relRes; rw [e, e2]
set_option maxHeartbeats 1000000 in
theorem implRelativize_any (h f : ByteArray) (hh : h.size ≤ 9223372036854775807) (hf : f.size ≤ 9223372036854775807) (w : World) :
    Calls Tryd.prog 15 #[.string h, .string f] w fun e w' => e = .returned (shortV (relRes h f)) ∧ Below w.heap.size w w' := by
  obtain ⟨R, hR⟩ : ∃ R, relRes h f = R := ⟨_, rfl⟩
  rw [hR]
  go_enter Tryd.func15, Tryd.ntmps15
  go_wp2_with fail
  refine (parseFormula_any h _ hh).mono ?_
  rintro en w1 ⟨hb1, hor1⟩
  have HB1 := Lib.hid hb1
  clear hb1
  rcases hor1 with ⟨hr, rfl⟩ | ⟨χ, n, hr, rfl, ht⟩
  · have HV : Hid (shortV R = .tuple #[.string ⟨#[]⟩, .bool false]) := by show _ = _; rw [← hR, rr_none1 hr]; rfl
    clear hr hR
    go_wp2_with fail
    refine (parseFormula_any f _ hf).mono ?_
    rintro en w2 ⟨hb2, hor⟩
    have HB2 := Lib.hid (HB1.out.trans (hb2.mono HB1.out.size))
    clear hb2
    rcases hor with ⟨_, rfl⟩ | ⟨i, p, _, rfl, ht⟩
    · go_wp2_with fail
      go_ret2
      exact ⟨congrArg Ending.returned HV.out.symm, HB2.out⟩
    · clear ht
      unfold ptrV
      go_wp2_with fail
      go_ret2
      exact ⟨congrArg Ending.returned HV.out.symm, HB2.out⟩
  · have HT := Lib.hid ht
    have HR := Lib.hid hr
    clear ht hr
    unfold ptrV
    go_wp2_with fail
    refine (parseFormula_any f _ hf).mono ?_
    rintro en w2 ⟨hb2, hor⟩
    have HB2 := Lib.hid (HB1.out.trans (hb2.mono HB1.out.size))
    rcases hor with ⟨he, rfl⟩ | ⟨i, p, he, rfl, ht⟩
    · have HV : Hid (shortV R = .tuple #[.string ⟨#[]⟩, .bool false]) := by show _ = _; rw [← hR, rr_none2 he]; rfl
      clear he hR hb2
      go_wp2_with fail
      go_ret2
      exact ⟨congrArg Ending.returned HV.out.symm, HB2.out⟩
    · have lχ := (read_len HR.out).1
      have li := (read_len he).1
      have hRR := hR.symm.trans (rr_some HR.out he)
      have HC := Lib.hid (rel_any i li χ lχ (fun _ => True) w2 n p ((HT.out.below hb2).mono (fun _ _ => trivial)) (ht.mono (fun _ _ => trivial)))
      obtain ⟨v, u, qs, nd, _⟩ := ht.node
      have c3 := nd.cells.2.2.2.1
      have hfl := Fm.free_lt i
      have HSZ : Hid (∀ ψ, Fm.within i χ = some ψ → (Fm.text ψ).length ≤ 16008000) := fun ψ h => by
        have := Fm.text_within li χ h
        omega
      generalize Fm.free i = fr at *
      clear nd hb2 hR he ht lχ li
      by_cases h0 : fr / 2 = 0
      · rw [if_pos h0] at hRR
        rw [← hRR] at HC HSZ
        clear hRR
        have h0I : (fr : Int) / 2 = 0 := by omega
        obtain ⟨s, b2, hv, hs, hsv⟩ : ∃ s b2, putVal R = .tuple #[.string s, .bool b2] ∧ s.size ≤ 16008000 ∧ (if b2 = true ∧ s.size ≤ 4000 then (.tuple #[.string s, .bool true] : Value) else .tuple #[.string ⟨#[]⟩, .bool false]) = shortV R := by
          cases R with
          | none => exact ⟨ByteArray.empty, false, rfl, by simp, by rw [if_neg (by simp)]; rfl⟩
          | some ψ' =>
            refine ⟨_, true, rfl, by rw [txtS_size]; exact HSZ.out _ rfl, ?_⟩
            rw [txtS_size]
            unfold shortV
            by_cases h : (Fm.text ψ').length ≤ 4000
            · rw [if_pos ⟨rfl, h⟩]; simp only [if_pos h]
            · rw [if_neg (fun h' => h h'.2)]; simp only [if_neg h]
        rw [hv] at HC
        have HSF := Lib.hid (fun w => shortFormula_any s b2 _ hsv w (by omega))
        obtain ⟨s3, b3, hsf⟩ := short_form R
        rw [hsf] at HSF
        have HSV := Lib.hid hsf
        clear hsf hv hsv HSZ
        unfold ptrV at HC
        unfold ptrV
        go_wp2_with fail
        refine HC.out.mono ?_; rintro e w3 ⟨rfl, hb3⟩
        have HB3 := Lib.hid (HB2.out.trans (hb3.mono HB2.out.size))
        clear hb3
        go_wp2_with fail
        refine (HSF.out _).mono ?_; rintro e wv ⟨rfl, hwv⟩; rw [hwv]; clear hwv wv
        go_wp2_with fail
        go_ret2
        exact ⟨congrArg Ending.returned HSV.out.symm, HB3.out⟩
      · have h0I : ¬ (fr : Int) / 2 = 0 := by omega
        rw [if_neg h0] at hRR
        have HV : Hid (shortV R = .tuple #[.string ⟨#[]⟩, .bool false]) := by show _ = _; rw [hRR]; rfl
        clear hRR HC HSZ
        unfold ptrV
        go_wp2_with fail
        go_ret2
        exact ⟨congrArg Ending.returned HV.out.symm, HB2.out⟩
end Go.Proofs.YtjepegkbbbebkaaDoor
/- Relativize of the reference. Condition: the texts' lengths fit an integer. -/
namespace Go.Proofs.YtjepegkbbbebkaaDoor
open Go.RowKit
set_option linter.unusedVariables false
set_option maxRecDepth 100000

theorem ext_take (f : ByteArray) (a k : Nat) : f.extract a (a + k) = tS ((f.data.toList.drop a).take k) := by
  apply ByteArray.ext
  apply Array.ext'
  rw [ByteArray.data_extract, Array.toList_extract]
  show (f.data.toList.drop a).take (a + k - a) = _
  rw [show a + k - a = k by omega]
  rfl
theorem ext_at {f : ByteArray} {a : Nat} {φ : Fm.T} (h : Fm.At f.data.toList a φ) : f.extract a (a + Fm.len φ) = tS (Fm.text φ) := by
  obtain ⟨r, hr⟩ := h
  rw [ext_take, hr]
  congr 1
  exact List.take_left
theorem ext_qu {f : ByteArray} {a : Nat} {q : Fm.Q} {v : Fin 4} {g : Fm.T} (h : Fm.At f.data.toList a (.qu q v g)) : f.extract a (a + 2) = tS [q.byte, Fm.vb v] := by
  obtain ⟨r, hr⟩ := h
  rw [ext_take, hr]
  rfl
/-- The text of a view is put in place of one variable. -/
theorem putIn_any {g : ByteArray} {i : Fm.T} (hg : readB g = some i) (o : okV g 2 = true) (k : Fin 4) (w : World) :
    ∃ E, Calls Tryd.prog 120 #[.string g, .int .i64 0, .agg #[.int .i64 ((k.val : Nat) : Int), .int .i64 0, .int .i64 0, .int .i64 0], .agg #[.string ⟨#[]⟩, .string ⟨#[]⟩]] w (LP (Fm.put i (Fm.fput id 0 k)) E 4000 w) := by
  rw [okV_some hg, decide_eq_true_iff] at o
  have a1 := readO_at hg
  have l1 := read_len hg
  refine ⟨0 + Fm.len i, ?_⟩
  have h := l11Put_any g (by have := a1.2; omega) none ⟨#[]⟩ ⟨#[]⟩ 1 vok_none i 0 0 (fun j => if j = 0 then k else 0) w rfl a1.1
  rw [Fm.putG_none, Fm.put_congr i (m' := Fm.fput id 0 k) (fun u hu => by
    obtain rfl := upto1 o u hu
    simp [Fm.fput])] at h
  refine (show Calls _ _ _ _ _ from h).mono fun e w' ⟨s, b, h1, h2, h3, h4⟩ => ⟨s, b, h1, h2, ?_, h4⟩
  have : Fm.len i ≤ 4000 := l1.1
  omega
set_option maxHeartbeats 2000000 in
theorem l11Within_any (f g : ByteArray) (i : Fm.T) (hf : f.size ≤ 1000000) (HIN : Hid (∀ (k : Fin 4) (w : World), ∃ E, Calls Tryd.prog 120 #[.string g, .int .i64 0, .agg #[.int .i64 ((k.val : Nat) : Int), .int .i64 0, .int .i64 0, .int .i64 0], .agg #[.string ⟨#[]⟩, .string ⟨#[]⟩]] w (LP (Fm.put i (Fm.fput id 0 k)) E 4000 w))) :
    ∀ (φ : Fm.T) (z : Int) (a : Nat) (w : World), z = (a : Int) → Fm.At f.data.toList a φ →
    Calls Tryd.prog 67 #[.string f, .int .i64 z, .string g] w (LP (Fm.within i φ) (a + Fm.len φ) (4002 * Fm.len φ) w) := by
  have HV : Hid (∀ (z : Int) (a : Nat) (w : World), z = (a : Int) → Calls Tryd.prog 121 #[.string f, .int .i64 z] w fun e w' => e = .returned (.int .i64 (Fm.varI (f.data.toList.drop a))) ∧ w' = w) := fun z a w hz => l2Var_any f z a w hz hf
  have HEN : Hid (∀ (a : Nat) (w : World), Calls Tryd.prog 117 #[.string f, .int .i64 (a : Int)] w fun e w' => e = .returned (.int .i64 (Fm.endI f.data.toList a)) ∧ w' = w) := fun a w => l2End_any f hf f.size (a : Int) a w rfl (by omega)
  have HQ : Hid (∀ (c : UInt8) (w : World), Calls Tryd.prog 119 #[.int .u8 (c.toNat : Int)] w fun e w' => e = .returned (.bool (Fm.isQu c)) ∧ w' = w) := fun c w => l2Quant_any c w
  intro φ
  induction φ with
  | lit b =>
    intro z a w hz hA
    subst hz
    obtain ⟨hlt, hx⟩ := byte_eq hA.head
    have haI : (0 : Int) ≤ (a : Int) := by omega
    have hltI : (a : Int) + 1 ≤ (f.size : Int) := by omega
    obtain ⟨KK, hKK⟩ : ∃ n, 4002 * Fm.len (.lit b) = n := ⟨_, rfl⟩
    rw [hKK]
    have HKK := Lib.hid hKK
    clear hKK
    have HEX := Lib.hid (ext_at hA)
    have hle : a + Fm.len (.lit b) ≤ f.size := by simpa using hA.le
    have HE1 : Hid (∀ w, Calls Tryd.prog 117 #[.string f, .int .i64 (a : Int)] w fun e w' => e = .returned (.int .i64 ((a + Fm.len (.lit b) : Nat) : Int)) ∧ w' = w) := fun w => by
      have h := HEN.out a w
      rw [hA.endI] at h
      exact h
    have HP : Hid (LP (Fm.within i (.lit b)) (a + Fm.len (.lit b)) KK w (.returned (.tuple #[.string (f.extract a (a + Fm.len (.lit b))), .int .i64 ((a + Fm.len (.lit b) : Nat) : Int), .bool true])) w) := ret_lp rfl (.lit (ψ := .lit b) rfl HEX.out) (by rw [HEX.out, tS_size, ← HKK.out]; show Fm.len (.lit b) ≤ _; omega) (Below.refl _ _)
    obtain ⟨E, hE⟩ : ∃ E, a + Fm.len (.lit b) = E := ⟨_, rfl⟩
    rw [hE] at HE1 HP hle ⊢
    have hle2 : a ≤ E := by omega
    have hleI : (E : Int) ≤ (f.size : Int) := by omega
    have hleJ : (a : Int) ≤ (E : Int) := by omega
    clear hA hE HEX
    cases b
    · replace hx : f[a] = 102 := hx
      have HQ1 : Hid (∀ w, Calls Tryd.prog 119 #[.int .u8 102] w fun e w' => e = .returned (.bool false) ∧ w' = w) := fun w => HQ.out 102 w
      go_enter Tryd.func67, Tryd.ntmps67
      go_wp2_with fail
      refine (HQ1.out _).mono ?_; rintro e wv ⟨rfl, hwv⟩; rw [hwv]; clear hwv wv
      go_wp2_with fail
      refine (HE1.out _).mono ?_; rintro e wv ⟨rfl, hwv⟩; rw [hwv]; clear hwv wv
      go_wp2_with fail
      go_ret3
      exact HP.out
    · replace hx : f[a] = 116 := hx
      have HQ1 : Hid (∀ w, Calls Tryd.prog 119 #[.int .u8 116] w fun e w' => e = .returned (.bool false) ∧ w' = w) := fun w => HQ.out 116 w
      go_enter Tryd.func67, Tryd.ntmps67
      go_wp2_with fail
      refine (HQ1.out _).mono ?_; rintro e wv ⟨rfl, hwv⟩; rw [hwv]; clear hwv wv
      go_wp2_with fail
      refine (HE1.out _).mono ?_; rintro e wv ⟨rfl, hwv⟩; rw [hwv]; clear hwv wv
      go_wp2_with fail
      go_ret3
      exact HP.out
  | set v =>
    intro z a w hz hA
    subst hz
    obtain ⟨hlt, hx⟩ := byte_eq hA.head
    have haI : (0 : Int) ≤ (a : Int) := by omega
    have hltI : (a : Int) + 1 ≤ (f.size : Int) := by omega
    obtain ⟨KK, hKK⟩ : ∃ n, 4002 * Fm.len (.set v) = n := ⟨_, rfl⟩
    rw [hKK]
    have HKK := Lib.hid hKK
    clear hKK
    have HEX := Lib.hid (ext_at hA)
    have hle : a + Fm.len (.set v) ≤ f.size := by simpa using hA.le
    have HE1 : Hid (∀ w, Calls Tryd.prog 117 #[.string f, .int .i64 (a : Int)] w fun e w' => e = .returned (.int .i64 ((a + Fm.len (.set v) : Nat) : Int)) ∧ w' = w) := fun w => by
      have h := HEN.out a w
      rw [hA.endI] at h
      exact h
    have HP : Hid (LP (Fm.within i (.set v)) (a + Fm.len (.set v)) KK w (.returned (.tuple #[.string (f.extract a (a + Fm.len (.set v))), .int .i64 ((a + Fm.len (.set v) : Nat) : Int), .bool true])) w) := ret_lp rfl (.lit (ψ := .set v) rfl HEX.out) (by rw [HEX.out, tS_size, ← HKK.out]; show Fm.len (.set v) ≤ _; omega) (Below.refl _ _)
    obtain ⟨E, hE⟩ : ∃ E, a + Fm.len (.set v) = E := ⟨_, rfl⟩
    rw [hE] at HE1 HP hle ⊢
    have hle2 : a ≤ E := by omega
    have hleI : (E : Int) ≤ (f.size : Int) := by omega
    have hleJ : (a : Int) ≤ (E : Int) := by omega
    clear hA hE HEX
    replace hx : f[a] = 80 := hx
    have HQ1 : Hid (∀ w, Calls Tryd.prog 119 #[.int .u8 80] w fun e w' => e = .returned (.bool false) ∧ w' = w) := fun w => HQ.out 80 w
    go_enter Tryd.func67, Tryd.ntmps67
    go_wp2_with fail
    refine (HQ1.out _).mono ?_; rintro e wv ⟨rfl, hwv⟩; rw [hwv]; clear hwv wv
    go_wp2_with fail
    refine (HE1.out _).mono ?_; rintro e wv ⟨rfl, hwv⟩; rw [hwv]; clear hwv wv
    go_wp2_with fail
    go_ret3
    exact HP.out
  | rel ee v u =>
    intro z a w hz hA
    subst hz
    obtain ⟨hlt, hx⟩ := byte_eq hA.head
    have haI : (0 : Int) ≤ (a : Int) := by omega
    have hltI : (a : Int) + 1 ≤ (f.size : Int) := by omega
    obtain ⟨KK, hKK⟩ : ∃ n, 4002 * Fm.len (.rel ee v u) = n := ⟨_, rfl⟩
    rw [hKK]
    have HKK := Lib.hid hKK
    clear hKK
    have HEX := Lib.hid (ext_at hA)
    have hle : a + Fm.len (.rel ee v u) ≤ f.size := by simpa using hA.le
    have HE1 : Hid (∀ w, Calls Tryd.prog 117 #[.string f, .int .i64 (a : Int)] w fun e w' => e = .returned (.int .i64 ((a + Fm.len (.rel ee v u) : Nat) : Int)) ∧ w' = w) := fun w => by
      have h := HEN.out a w
      rw [hA.endI] at h
      exact h
    have HP : Hid (LP (Fm.within i (.rel ee v u)) (a + Fm.len (.rel ee v u)) KK w (.returned (.tuple #[.string (f.extract a (a + Fm.len (.rel ee v u))), .int .i64 ((a + Fm.len (.rel ee v u) : Nat) : Int), .bool true])) w) := ret_lp rfl (.lit (ψ := .rel ee v u) rfl HEX.out) (by rw [HEX.out, tS_size, ← HKK.out]; show Fm.len (.rel ee v u) ≤ _; omega) (Below.refl _ _)
    obtain ⟨E, hE⟩ : ∃ E, a + Fm.len (.rel ee v u) = E := ⟨_, rfl⟩
    rw [hE] at HE1 HP hle ⊢
    have hle2 : a ≤ E := by omega
    have hleI : (E : Int) ≤ (f.size : Int) := by omega
    have hleJ : (a : Int) ≤ (E : Int) := by omega
    clear hA hE HEX
    cases ee
    · replace hx : f[a] = 61 := hx
      have HQ1 : Hid (∀ w, Calls Tryd.prog 119 #[.int .u8 61] w fun e w' => e = .returned (.bool false) ∧ w' = w) := fun w => HQ.out 61 w
      go_enter Tryd.func67, Tryd.ntmps67
      go_wp2_with fail
      refine (HQ1.out _).mono ?_; rintro e wv ⟨rfl, hwv⟩; rw [hwv]; clear hwv wv
      go_wp2_with fail
      refine (HE1.out _).mono ?_; rintro e wv ⟨rfl, hwv⟩; rw [hwv]; clear hwv wv
      go_wp2_with fail
      go_ret3
      exact HP.out
    · replace hx : f[a] = 69 := hx
      have HQ1 : Hid (∀ w, Calls Tryd.prog 119 #[.int .u8 69] w fun e w' => e = .returned (.bool false) ∧ w' = w) := fun w => HQ.out 69 w
      go_enter Tryd.func67, Tryd.ntmps67
      go_wp2_with fail
      refine (HQ1.out _).mono ?_; rintro e wv ⟨rfl, hwv⟩; rw [hwv]; clear hwv wv
      go_wp2_with fail
      refine (HE1.out _).mono ?_; rintro e wv ⟨rfl, hwv⟩; rw [hwv]; clear hwv wv
      go_wp2_with fail
      go_ret3
      exact HP.out
  | neg g ih =>
    intro z a w hz hA
    subst hz
    obtain ⟨hlt, hx⟩ := byte_eq hA.head
    have haI : (0 : Int) ≤ (a : Int) := by omega
    have hltI : (a : Int) + 1 ≤ (f.size : Int) := by omega
    obtain ⟨KK, hKK⟩ : ∃ n, 4002 * Fm.len (.neg g) = n := ⟨_, rfl⟩
    rw [hKK]
    have HKK := Lib.hid hKK
    clear hKK
    have HLG : Hid (Fm.len (.neg g) = 1 + Fm.len g) := by show _ = _; simp [Fm.len, Fm.text]; omega
    have hle : a + (1 + Fm.len g) ≤ f.size := by have h := hA.le; rw [HLG.out] at h; simpa using h
    have HC := Lib.hid (fun w => ih ((a : Int) + 1) (a + 1) w (by omega) hA.neg)
    have HKG : Hid (4002 * Fm.len g + 4002 = KK) := by show _ = _; rw [← HKK.out, HLG.out]; omega
    have hKL : 4002 * Fm.len g ≤ 4002 * 1000000 := Nat.mul_le_mul (Nat.le_refl _) (by omega)
    have HP : Hid (∀ w' s b, LR (Fm.within i g) s b → s.size ≤ 4002 * Fm.len g → Below w.heap.size w w' → LP (Fm.within i (.neg g)) (a + Fm.len (.neg g)) KK w (.returned (.tuple #[.string (⟨#[33]⟩ ++ s), .int .i64 ((a + 1 + Fm.len g : Nat) : Int), .bool b])) w') := fun w' s b h hs hb => ret_lp (by rw [HLG.out]; omega) (h.map .neg (fun ψ hψ => by rw [hψ]; apply ByteArray.ext; simp [tS, Fm.text, ByteArray.data_append])) (by rw [ByteArray.size_append, ← HKG.out]; show 1 + _ ≤ _; omega) hb
    replace hx : f[a] = 33 := hx
    clear hA ih
    generalize 4002 * Fm.len g = KG at *
    generalize (a + 1 + Fm.len g) = E at *
    go_enter Tryd.func67, Tryd.ntmps67
    go_wp2_with fail
    refine (HC.out _).mono ?_; rintro e w3 ⟨s, b, rfl, hr, hs, hb3⟩
    have HPP := Lib.hid (HP.out _ s b hr hs hb3)
    have hcat : ¬ 9223372036854775807 < (⟨#[33]⟩ : ByteArray).size + s.size := by show ¬ _ < 1 + _; omega
    clear hb3 hr
    go_wp2_with fail
    go_ret3
    exact HPP.out
  | bin o g h ih1 ih2 =>
    intro z a w hz hA
    subst hz
    obtain ⟨hlt, hx⟩ := byte_eq hA.head
    have haI : (0 : Int) ≤ (a : Int) := by omega
    have hltI : (a : Int) + 1 ≤ (f.size : Int) := by omega
    obtain ⟨KK, hKK⟩ : ∃ n, 4002 * Fm.len (.bin o g h) = n := ⟨_, rfl⟩
    rw [hKK]
    have HKK := Lib.hid hKK
    clear hKK
    have hx1 := ext_one hlt
    have hz1 : (f.extract a (a + 1)).size = 1 := by rw [hx1, tS_size]; rfl
    have HLG : Hid (Fm.len (.bin o g h) = 1 + Fm.len g + Fm.len h) := by show _ = _; simp [Fm.len, Fm.text]; omega
    have hle : a + (1 + Fm.len g + Fm.len h) ≤ f.size := by have h := hA.le; rw [HLG.out] at h; simpa using h
    have HC1 := Lib.hid (fun w => ih1 ((a : Int) + 1) (a + 1) w (by omega) hA.bin1)
    have HC2 := Lib.hid (fun w => ih2 ((a + 1 + Fm.len g : Nat) : Int) (a + 1 + Fm.len g) w rfl hA.bin2)
    have HKG : Hid (4002 * Fm.len g + 4002 * Fm.len h + 4002 = KK) := by show _ = _; rw [← HKK.out, HLG.out]; omega
    have hKL : 4002 * Fm.len g ≤ 4002 * 1000000 := Nat.mul_le_mul (Nat.le_refl _) (by omega)
    have hKL2 : 4002 * Fm.len h ≤ 4002 * 1000000 := Nat.mul_le_mul (Nat.le_refl _) (by omega)
    have HP : Hid (∀ w' s b s2 b2, LR (Fm.within i g) s b → LR (Fm.within i h) s2 b2 → s.size ≤ 4002 * Fm.len g → s2.size ≤ 4002 * Fm.len h → Below w.heap.size w w' → LP (Fm.within i (.bin o g h)) (a + Fm.len (.bin o g h)) KK w (.returned (.tuple #[.string (f.extract a (a + 1) ++ s ++ s2), .int .i64 ((a + 1 + Fm.len g + Fm.len h : Nat) : Int), .bool (b && b2)])) w') := fun w' s b s2 b2 h1 h2 hs hs2 hb => ret_lp (by rw [HLG.out]; omega) (LR.two (fun x y => .bin o x y) h1 h2 (fun ψ χ hψ hχ => by rw [hψ, hχ, hx1, hx]; apply ByteArray.ext; cases o <;> simp [tS, Fm.text, Fm.T.op, ByteArray.data_append])) (by rw [ByteArray.size_append, ByteArray.size_append, ← HKG.out, hz1]; omega) hb
    clear hA ih1 ih2 hx1
    generalize 4002 * Fm.len g = KG at *
    generalize 4002 * Fm.len h = KH at *
    generalize hE1 : (a + 1 + Fm.len g + Fm.len h) = E2 at *
    generalize hE2 : (a + 1 + Fm.len g) = E at *
    clear hE1 hE2
    cases o
    all_goals
      replace hx : f[a] = _ := hx
      simp only [Fm.T.op] at hx
      go_enter Tryd.func67, Tryd.ntmps67
      go_wp2_with fail
      refine (HC1.out _).mono ?_; rintro e w3 ⟨s, b, rfl, hr, hs, hb3⟩
      have HB3 := Lib.hid hb3
      have HR1 := Lib.hid hr
      clear hb3 hr
      go_wp2_with fail
      refine (HC2.out _).mono ?_; rintro e w4 ⟨s2, b2, rfl, hr2, hs2, hb4⟩
      have HPP := Lib.hid (HP.out _ s b s2 b2 HR1.out hr2 hs hs2 (HB3.out.trans (hb4.mono HB3.out.size)))
      have hcat : ¬ 9223372036854775807 < (f.extract a (a + 1)).size + s.size := by rw [hz1]; omega
      have hcat2 : ¬ 9223372036854775807 < (f.extract a (a + 1) ++ s).size + s2.size := by rw [ByteArray.size_append, hz1]; omega
      clear hb4 hr2
      cases b
      all_goals
        go_wp2_with fail
        go_ret3
        exact HPP.out
  | qu q v g' ih =>
    intro z a w hz hA
    subst hz
    obtain ⟨hlt, hx⟩ := byte_eq hA.head
    have haI : (0 : Int) ≤ (a : Int) := by omega
    have hltI : (a : Int) + 1 ≤ (f.size : Int) := by omega
    obtain ⟨KK, hKK⟩ : ∃ n, 4002 * Fm.len (.qu q v g') = n := ⟨_, rfl⟩
    rw [hKK]
    have HKK := Lib.hid hKK
    clear hKK
    have hx2 := ext_qu hA
    have hz1 : (f.extract a (a + 2)).size = 2 := by rw [hx2, tS_size]; rfl
    have HLG : Hid (Fm.len (.qu q v g') = 2 + Fm.len g') := by show _ = _; simp [Fm.len, Fm.text]; omega
    have hle : a + (2 + Fm.len g') ≤ f.size := by have h := hA.le; rw [HLG.out] at h; simpa using h
    have HV1 := Lib.hid (fun w => HV.out ((a : Int) + 1) (a + 1) w (by omega))
    rw [hA.qv] at HV1
    have HC := Lib.hid (fun w => ih ((a : Int) + 2) (a + 2) w (by omega) hA.qu)
    have HIV := Lib.hid (HIN.out v)
    have HKG : Hid (4002 * Fm.len g' + 2 * 4002 = KK) := by show _ = _; rw [← HKK.out, HLG.out]; omega
    have hKL : 4002 * Fm.len g' ≤ 4002 * 1000000 := Nat.mul_le_mul (Nat.le_refl _) (by omega)
    have HP : Hid (∀ w' s b s2 b2, LR (Fm.within i g') s b → LR (Fm.put i (Fm.fput id 0 v)) s2 b2 → s.size ≤ 4002 * Fm.len g' → s2.size ≤ 4000 → Below w.heap.size w w' → LP (Fm.within i (.qu q v g')) (a + Fm.len (.qu q v g')) KK w (.returned (.tuple #[.string (f.extract a (a + 2) ++ tS (Fm.guH q) ++ s2 ++ s), .int .i64 ((a + 2 + Fm.len g' : Nat) : Int), .bool (b && b2)])) w') := fun w' s b s2 b2 h1 h2 hs hs2 hb => ret_lp (by rw [HLG.out]; omega) (by
      rw [Bool.and_comm]
      exact LR.two (fun x y => .qu q v (Fm.gu q x y)) h2 h1 (fun ψ χ hψ hχ => by rw [hψ, hχ, hx2, Fm.text, Fm.text_gu]; apply ByteArray.ext; simp [tS, ByteArray.data_append])) (by
      have hg : (Fm.guH q).length ≤ 2 := by cases q <;> simp [Fm.guH]
      rw [ByteArray.size_append, ByteArray.size_append, ByteArray.size_append, ← HKG.out, hz1, tS_size]; omega) hb
    clear hA ih hx2
    generalize 4002 * Fm.len g' = KG at *
    generalize (a + 2 + Fm.len g') = E at *
    have HQ1 : Hid (∀ w, Calls Tryd.prog 119 #[.int .u8 (q.byte.toNat : Int)] w fun e w' => e = .returned (.bool true) ∧ w' = w) := fun w => by
      have h := HQ.out q.byte w
      have e : Fm.isQu q.byte = true := by unfold Fm.isQu; rw [Fm.quOf_byte]; rfl
      rw [e] at h
      exact h
    have hltJ : (a : Int) + 2 ≤ (f.size : Int) := by omega
    cases q
    · replace hx : f[a] = _ := hx
      simp only [Fm.T.op, Fm.Q.byte] at hx
      have hg2 : (tS (Fm.guH Fm.Q.all)).size ≤ 2 := by decide
      have hgs : tS (Fm.guH Fm.Q.all) = ⟨#[124, 33]⟩ := rfl
      rw [hgs] at HP hg2
      go_enter Tryd.func67, Tryd.ntmps67
      go_wp2_with fail
      refine (HQ1.out _).mono ?_; rintro e wv ⟨rfl, hwv⟩; rw [hwv]; clear hwv wv
      go_wp2_with fail
      refine (HC.out _).mono ?_; rintro e w3 ⟨s, b, rfl, hr, hs, hb3⟩
      have HB3 := Lib.hid hb3
      have HR1 := Lib.hid hr
      clear hb3 hr
      go_wp2_with fail
      refine (HV1.out _).mono ?_; rintro e wv ⟨rfl, hwv⟩; rw [hwv]; clear hwv wv
      go_wp2_with fail
      obtain ⟨E2, hE2⟩ := HIV.out w3
      refine hE2.mono ?_; rintro e w4 ⟨s2, b2, rfl, hr2, hs2, hb4⟩
      have HPP := Lib.hid (HP.out _ s b s2 b2 HR1.out hr2 hs hs2 (HB3.out.trans (hb4.mono HB3.out.size)))
      have hcat : ¬ 9223372036854775807 < (f.extract a (a + 2)).size + (⟨#[124, 33]⟩ : ByteArray).size := by rw [hz1]; omega
      have hcat2 : ¬ 9223372036854775807 < (f.extract a (a + 2) ++ ⟨#[124, 33]⟩).size + s2.size := by rw [ByteArray.size_append, hz1]; omega
      have hcat3 : ¬ 9223372036854775807 < (f.extract a (a + 2) ++ ⟨#[124, 33]⟩ ++ s2).size + s.size := by rw [ByteArray.size_append, ByteArray.size_append, hz1]; omega
      clear hb4 hr2 hE2
      cases b
      all_goals
        go_wp2_with fail
        go_ret3
        exact HPP.out
    · replace hx : f[a] = _ := hx
      simp only [Fm.T.op, Fm.Q.byte] at hx
      have hg2 : (tS (Fm.guH Fm.Q.some)).size ≤ 2 := by decide
      have hgs : tS (Fm.guH Fm.Q.some) = ⟨#[38]⟩ := rfl
      rw [hgs] at HP hg2
      go_enter Tryd.func67, Tryd.ntmps67
      go_wp2_with fail
      refine (HQ1.out _).mono ?_; rintro e wv ⟨rfl, hwv⟩; rw [hwv]; clear hwv wv
      go_wp2_with fail
      refine (HC.out _).mono ?_; rintro e w3 ⟨s, b, rfl, hr, hs, hb3⟩
      have HB3 := Lib.hid hb3
      have HR1 := Lib.hid hr
      clear hb3 hr
      go_wp2_with fail
      refine (HV1.out _).mono ?_; rintro e wv ⟨rfl, hwv⟩; rw [hwv]; clear hwv wv
      go_wp2_with fail
      obtain ⟨E2, hE2⟩ := HIV.out w3
      refine hE2.mono ?_; rintro e w4 ⟨s2, b2, rfl, hr2, hs2, hb4⟩
      have HPP := Lib.hid (HP.out _ s b s2 b2 HR1.out hr2 hs hs2 (HB3.out.trans (hb4.mono HB3.out.size)))
      have hcat : ¬ 9223372036854775807 < (f.extract a (a + 2)).size + (⟨#[38]⟩ : ByteArray).size := by rw [hz1]; omega
      have hcat2 : ¬ 9223372036854775807 < (f.extract a (a + 2) ++ ⟨#[38]⟩).size + s2.size := by rw [ByteArray.size_append, hz1]; omega
      have hcat3 : ¬ 9223372036854775807 < (f.extract a (a + 2) ++ ⟨#[38]⟩ ++ s2).size + s.size := by rw [ByteArray.size_append, ByteArray.size_append, hz1]; omega
      clear hb4 hr2 hE2
      cases b
      all_goals
        go_wp2_with fail
        go_ret3
        exact HPP.out
    · replace hx : f[a] = _ := hx
      simp only [Fm.T.op, Fm.Q.byte] at hx
      have hg2 : (tS (Fm.guH Fm.Q.two)).size ≤ 2 := by decide
      have hgs : tS (Fm.guH Fm.Q.two) = ⟨#[38]⟩ := rfl
      rw [hgs] at HP hg2
      go_enter Tryd.func67, Tryd.ntmps67
      go_wp2_with fail
      refine (HQ1.out _).mono ?_; rintro e wv ⟨rfl, hwv⟩; rw [hwv]; clear hwv wv
      go_wp2_with fail
      refine (HC.out _).mono ?_; rintro e w3 ⟨s, b, rfl, hr, hs, hb3⟩
      have HB3 := Lib.hid hb3
      have HR1 := Lib.hid hr
      clear hb3 hr
      go_wp2_with fail
      refine (HV1.out _).mono ?_; rintro e wv ⟨rfl, hwv⟩; rw [hwv]; clear hwv wv
      go_wp2_with fail
      obtain ⟨E2, hE2⟩ := HIV.out w3
      refine hE2.mono ?_; rintro e w4 ⟨s2, b2, rfl, hr2, hs2, hb4⟩
      have HPP := Lib.hid (HP.out _ s b s2 b2 HR1.out hr2 hs hs2 (HB3.out.trans (hb4.mono HB3.out.size)))
      have hcat : ¬ 9223372036854775807 < (f.extract a (a + 2)).size + (⟨#[38]⟩ : ByteArray).size := by rw [hz1]; omega
      have hcat2 : ¬ 9223372036854775807 < (f.extract a (a + 2) ++ ⟨#[38]⟩).size + s2.size := by rw [ByteArray.size_append, hz1]; omega
      have hcat3 : ¬ 9223372036854775807 < (f.extract a (a + 2) ++ ⟨#[38]⟩ ++ s2).size + s.size := by rw [ByteArray.size_append, ByteArray.size_append, hz1]; omega
      clear hb4 hr2 hE2
      cases b
      all_goals
        go_wp2_with fail
        go_ret3
        exact HPP.out
    · replace hx : f[a] = _ := hx
      simp only [Fm.T.op, Fm.Q.byte] at hx
      have hg2 : (tS (Fm.guH Fm.Q.three)).size ≤ 2 := by decide
      have hgs : tS (Fm.guH Fm.Q.three) = ⟨#[38]⟩ := rfl
      rw [hgs] at HP hg2
      go_enter Tryd.func67, Tryd.ntmps67
      go_wp2_with fail
      refine (HQ1.out _).mono ?_; rintro e wv ⟨rfl, hwv⟩; rw [hwv]; clear hwv wv
      go_wp2_with fail
      refine (HC.out _).mono ?_; rintro e w3 ⟨s, b, rfl, hr, hs, hb3⟩
      have HB3 := Lib.hid hb3
      have HR1 := Lib.hid hr
      clear hb3 hr
      go_wp2_with fail
      refine (HV1.out _).mono ?_; rintro e wv ⟨rfl, hwv⟩; rw [hwv]; clear hwv wv
      go_wp2_with fail
      obtain ⟨E2, hE2⟩ := HIV.out w3
      refine hE2.mono ?_; rintro e w4 ⟨s2, b2, rfl, hr2, hs2, hb4⟩
      have HPP := Lib.hid (HP.out _ s b s2 b2 HR1.out hr2 hs hs2 (HB3.out.trans (hb4.mono HB3.out.size)))
      have hcat : ¬ 9223372036854775807 < (f.extract a (a + 2)).size + (⟨#[38]⟩ : ByteArray).size := by rw [hz1]; omega
      have hcat2 : ¬ 9223372036854775807 < (f.extract a (a + 2) ++ ⟨#[38]⟩).size + s2.size := by rw [ByteArray.size_append, hz1]; omega
      have hcat3 : ¬ 9223372036854775807 < (f.extract a (a + 2) ++ ⟨#[38]⟩ ++ s2).size + s.size := by rw [ByteArray.size_append, ByteArray.size_append, hz1]; omega
      clear hb4 hr2 hE2
      cases b
      all_goals
        go_wp2_with fail
        go_ret3
        exact HPP.out
    · replace hx : f[a] = _ := hx
      simp only [Fm.T.op, Fm.Q.byte] at hx
      have hg2 : (tS (Fm.guH Fm.Q.four)).size ≤ 2 := by decide
      have hgs : tS (Fm.guH Fm.Q.four) = ⟨#[38]⟩ := rfl
      rw [hgs] at HP hg2
      go_enter Tryd.func67, Tryd.ntmps67
      go_wp2_with fail
      refine (HQ1.out _).mono ?_; rintro e wv ⟨rfl, hwv⟩; rw [hwv]; clear hwv wv
      go_wp2_with fail
      refine (HC.out _).mono ?_; rintro e w3 ⟨s, b, rfl, hr, hs, hb3⟩
      have HB3 := Lib.hid hb3
      have HR1 := Lib.hid hr
      clear hb3 hr
      go_wp2_with fail
      refine (HV1.out _).mono ?_; rintro e wv ⟨rfl, hwv⟩; rw [hwv]; clear hwv wv
      go_wp2_with fail
      obtain ⟨E2, hE2⟩ := HIV.out w3
      refine hE2.mono ?_; rintro e w4 ⟨s2, b2, rfl, hr2, hs2, hb4⟩
      have HPP := Lib.hid (HP.out _ s b s2 b2 HR1.out hr2 hs hs2 (HB3.out.trans (hb4.mono HB3.out.size)))
      have hcat : ¬ 9223372036854775807 < (f.extract a (a + 2)).size + (⟨#[38]⟩ : ByteArray).size := by rw [hz1]; omega
      have hcat2 : ¬ 9223372036854775807 < (f.extract a (a + 2) ++ ⟨#[38]⟩).size + s2.size := by rw [ByteArray.size_append, hz1]; omega
      have hcat3 : ¬ 9223372036854775807 < (f.extract a (a + 2) ++ ⟨#[38]⟩ ++ s2).size + s.size := by rw [ByteArray.size_append, ByteArray.size_append, hz1]; omega
      clear hb4 hr2 hE2
      cases b
      all_goals
        go_wp2_with fail
        go_ret3
        exact HPP.out
theorem relRes_short {h f : ByteArray} (e : okV f 2 = false) : relRes h f = none := by
  cases hf : readB f with
  | none => exact rr_none2 hf
  | some i =>
    cases hh : readB h with
    | none => exact rr_none1 hh
    | some χ =>
      rw [rr_some hh hf, if_neg]
      rw [okV_some hf, decide_eq_false_iff_not] at e
      exact e
set_option maxHeartbeats 1000000 in
theorem specRelativize_any (h f : ByteArray) (hh : h.size ≤ 9223372036854775807) (hf : f.size ≤ 9223372036854775807) (w : World) :
    Calls Tryd.prog 16 #[.string h, .string f] w fun e w' => e = .returned (shortV (relRes h f)) ∧ Below w.heap.size w w' := by
  have HFV := Lib.hid (fun w => FormulaValid_any h w hh)
  have HV1 := Lib.hid (fun w => l11View_1 f hf w)
  obtain ⟨R, hR⟩ : ∃ R, relRes h f = R := ⟨_, rfl⟩
  rw [hR]
  cases hr : readB h with
  | none =>
    have HV : Hid (shortV R = .tuple #[.string ⟨#[]⟩, .bool false]) := by show _ = _; rw [← hR, rr_none1 hr]; rfl
    rw [hr] at HFV
    clear hr hR
    go_enter Tryd.func16, Tryd.ntmps16
    go_wp2_with fail
    refine (HFV.out _).mono ?_; rintro _ wv ⟨rfl, hwv⟩; rw [hwv]; clear hwv wv
    go_wp2_with fail
    go_ret2
    exact ⟨congrArg Ending.returned HV.out.symm, Below.refl _ _⟩
  | some χ =>
    rw [hr] at HFV
    cases ho : okV f 2 with
    | false =>
      have HV : Hid (shortV R = .tuple #[.string ⟨#[]⟩, .bool false]) := by show _ = _; rw [← hR, relRes_short ho]; rfl
      rw [ho] at HV1
      clear hr hR ho
      go_enter Tryd.func16, Tryd.ntmps16
      go_wp2_with fail
      refine (HFV.out _).mono ?_; rintro _ wv ⟨rfl, hwv⟩; rw [hwv]; clear hwv wv
      go_wp2_with fail
      refine (HV1.out _).mono ?_; rintro _ wv ⟨rfl, hwv⟩; rw [hwv]; clear hwv wv
      go_wp2_with fail
      go_ret2
      exact ⟨congrArg Ending.returned HV.out.symm, Below.refl _ _⟩
    | true =>
      obtain ⟨i, hi⟩ : ∃ i, readB f = some i := by
        cases hf2 : readB f with
        | none => rw [okV_none hf2] at ho; cases ho
        | some i => exact ⟨i, rfl⟩
      have a0 := readO_at hr
      have l0 := read_len hr
      have HC := Lib.hid (fun w => l11Within_any h f i (by have := a0.2; omega) (fun k w => putIn_any hi ho k w) χ 0 0 w rfl a0.1)
      have hRR : R = Fm.within i χ := by
        rw [← hR, rr_some hr hi, if_pos]
        rw [okV_some hi, decide_eq_true_iff] at ho
        exact ho
      rw [← hRR] at HC
      rw [ho] at HV1
      have hlen : Fm.len χ ≤ 4000 := l0.1
      clear hRR hR hr hi ho a0 l0
      go_enter Tryd.func16, Tryd.ntmps16
      go_wp2_with fail
      refine (HFV.out _).mono ?_; rintro _ wv ⟨rfl, hwv⟩; rw [hwv]; clear hwv wv
      go_wp2_with fail
      refine (HV1.out _).mono ?_; rintro _ wv ⟨rfl, hwv⟩; rw [hwv]; clear hwv wv
      go_wp2_with fail
      refine (HC.out _).mono ?_; rintro _ w3 ⟨s, b, rfl, hlr, hs, hb3⟩
      have HB3 := Lib.hid hb3
      have HSF := Lib.hid (fun w => l11Result_any s b _ (short_of hlr) w (by omega))
      obtain ⟨s3, b3, hsf⟩ := short_form R
      rw [hsf] at HSF
      have HSV := Lib.hid hsf
      clear hb3 hlr hsf
      generalize (0 + Fm.len χ) = E at *
      go_wp2_with fail
      refine (HSF.out _).mono ?_; rintro _ w4 ⟨rfl, hw4⟩; rw [hw4]; clear hw4 w4
      go_wp2_with fail
      go_ret2
      exact ⟨congrArg Ending.returned HSV.out.symm, HB3.out⟩
end Go.Proofs.YtjepegkbbbebkaaDoor
/- Draws of formulas with some first variables, and of structures with them. Conditions: the reader lies in memory and has not drawn much; the bytes are readable. -/
namespace Go.Proofs.YtjepegkbbbebkaaDoor
open Go.RowKit
set_option linter.unusedVariables false
set_option maxRecDepth 100000

set_option maxHeartbeats 4000000 in
theorem l11Draw_any (b K wd : Nat) (hwd : 1 ≤ wd ∧ wd ≤ 2) (w : World) (h : RdB w b K) (hk : K < 1000000000) :
    Calls Tryd.prog 61 #[.pointer (some ⟨b, 0, none⟩), .int .i64 (wd : Int)] w (TxtN b (K + 260) 69 w) := by
  have H := Lib.hid h; clear h
  go_enter Tryd.func61, Tryd.ntmps61
  go_wp2_with fail
  refine (pickB _ b K _ H.out (by omega) (by omega) (by omega)).mono ?_; rintro e w1 ⟨d, rfl, d0, d1, hr, hg⟩
  have HR1 := Lib.hid hr; have HG1 := Lib.hid hg; clear hr hg H
  go_wp2_with fail
  refine (pickB _ b _ _ HR1.out (by omega) (by omega) (by omega)).mono ?_; rintro e w3 ⟨c, rfl, c0, c1, hr, hg⟩
  have HR3 := Lib.hid hr; have HG3 := Lib.hid (HG1.out.trans hg); clear hr hg HR1 HG1
  obtain ⟨m, rfl⟩ := Int.eq_ofNat_of_zero_le d0
  have hm := nP4 (d := m + 1) (by omega)
  have hm1 : (1 + (m : Int)) = ((m + 1 : Nat) : Int) := by omega
  have HC : Hid (∀ cnt, Calls Tryd.prog 111 #[.pointer (some ⟨b, 0, none⟩), .int .i64 (1 + (m : Int)), .string ⟨#[97, 98, 99]⟩, .bool cnt] w3 (TxtN b (K + 1 + 1 + nP (m + 1)) (tP (m + 1)) w3)) := by
    intro cnt
    rw [hm1]
    exact l2Draw_any b ⟨#[97, 98, 99]⟩ cnt (by decide) (by decide) (m + 1) (by omega) w3 _ HR3.out (by omega)
  clear hm1
  generalize nP (m + 1) = N at *
  generalize tP (m + 1) = M at *
  go_wp2_with fail
  refine (HC.out _).mono ?_; rintro e w4 ⟨f, f1, f2, rfl, hr, hg⟩
  have HR4 := Lib.hid hr; have HG4 := Lib.hid (HG3.out.trans hg); clear hr hg HR3 HG3 HC
  have HFV := Lib.hid (fun w => FreeVars_any f (by omega) w)
  go_wp2_with fail
  refine (HFV.out _).mono ?_; rintro _ w2 ⟨⟨fr, h4, rfl⟩, hw2⟩; rw [hw2]; clear hw2 w2 HFV
  have HFI := Lib.hid (fun c w => l15FindP_any fr c w (by omega))
  go_wp2_with fail
  go_loopw [8, 6] (fun q v wr => ∃ i : Nat, 1 ≤ i ∧ i ≤ 3 ∧ q = .int .i64 (i : Int) ∧ ∃ t : ByteArray, 1 ≤ t.size ∧ t.size ≤ 63 + 2 * i ∧ v = .string t ∧ Hid (RdB wr b (K + 250 + i) ∧ w.grownBy wr (some b))) (fun q _ _ => 3 - (intOf q).toNat)
  case atStart => exact ⟨wd, by omega, by omega, rfl, f, f1, by omega, rfl, HR4.out.mono (by omega), HG4.out⟩
  case round =>
    obtain ⟨i, hi1, hi, rfl, t, t1, t2, rfl, HI⟩ := hrel
    clear HR4 HG4
    rcases (by omega : i = 1 ∨ i = 2 ∨ i = 3) with rfl | rfl | rfl
    · have HRD := Lib.hid (rdB_bel HI.out.1 (Below.refl wr.heap.size wr).drew)
      have HX : Hid (∀ (o : ByteArray) wz, o.size ≤ 1 → 1 ≤ o.size → RdB wz b (K + 250 + 1 + 1) → wr.drew.grownBy wz (some b) → ∃ j : Nat, 1 ≤ j ∧ j ≤ 3 ∧ Value.int IntKind.i64 2 = .int .i64 (j : Int) ∧ ∃ t' : ByteArray, 1 ≤ t'.size ∧ t'.size ≤ 63 + 2 * j ∧ Value.string (o ++ ⟨#[98]⟩ ++ t) = Value.string t' ∧ Hid (RdB wz b (K + 250 + j) ∧ w.grownBy wz (some b))) :=
        fun o wz h1 h0 h2 h3 => ⟨2, by omega, by omega, rfl, _, by rw [ByteArray.size_append]; have : (⟨#[98]⟩ : ByteArray).size = 1 := rfl; omega, by rw [ByteArray.size_append, ByteArray.size_append]; have : (⟨#[98]⟩ : ByteArray).size = 1 := rfl; omega, rfl, h2, HI.out.2.trans ((grown_drewF wr).trans h3)⟩
      have HF := Lib.hid (fun w => HFI.out 98 w)
      obtain ⟨P, hP⟩ : ∃ P, posB 98 fr.data.toList 0 = P := ⟨_, rfl⟩
      rw [hP] at HF
      clear hP HFI
      go_wp2_with fail
      refine (HF.out _).mono ?_; rintro _ w5 ⟨rfl, hw5⟩; rw [hw5]; clear hw5 w5
      by_cases hc : 0 ≤ P
      · go_wp2_with fail
        go_region_with (first | (go_at_call 60; refine (of_ne wr.drew b _ 1 [⟨#[83]⟩, ⟨#[65]⟩] _ HRD.out (by omega) (by decide) (by decide) (by intro x hx; simp at hx; rcases hx with rfl | rfl <;> decide)).mono ?_; rintro e wz ⟨o, o1, o2, rfl, hr, hg⟩; have HQ := Lib.hid (HX.out o wz o2 o1 hr hg); clear hr hg))
        all_goals
          go_wp2_with fail
          go_roundw
          case rel => exact HQ.out
          case measure => simp [intOf]
      · go_wp2_with fail
        go_roundw
        case rel => exact ⟨2, by omega, by omega, rfl, t, t1, by omega, rfl, HI.out.1.mono (by omega), HI.out.2⟩
        case measure => simp [intOf]
    · have HRD := Lib.hid (rdB_bel HI.out.1 (Below.refl wr.heap.size wr).drew)
      have HX : Hid (∀ (o : ByteArray) wz, o.size ≤ 1 → 1 ≤ o.size → RdB wz b (K + 250 + 2 + 1) → wr.drew.grownBy wz (some b) → ∃ j : Nat, 1 ≤ j ∧ j ≤ 3 ∧ Value.int IntKind.i64 3 = .int .i64 (j : Int) ∧ ∃ t' : ByteArray, 1 ≤ t'.size ∧ t'.size ≤ 63 + 2 * j ∧ Value.string (o ++ ⟨#[99]⟩ ++ t) = Value.string t' ∧ Hid (RdB wz b (K + 250 + j) ∧ w.grownBy wz (some b))) :=
        fun o wz h1 h0 h2 h3 => ⟨3, by omega, by omega, rfl, _, by rw [ByteArray.size_append]; have : (⟨#[99]⟩ : ByteArray).size = 1 := rfl; omega, by rw [ByteArray.size_append, ByteArray.size_append]; have : (⟨#[99]⟩ : ByteArray).size = 1 := rfl; omega, rfl, h2, HI.out.2.trans ((grown_drewF wr).trans h3)⟩
      have HF := Lib.hid (fun w => HFI.out 99 w)
      obtain ⟨P, hP⟩ : ∃ P, posB 99 fr.data.toList 0 = P := ⟨_, rfl⟩
      rw [hP] at HF
      clear hP HFI
      go_wp2_with fail
      refine (HF.out _).mono ?_; rintro _ w5 ⟨rfl, hw5⟩; rw [hw5]; clear hw5 w5
      by_cases hc : 0 ≤ P
      · go_wp2_with fail
        go_region_with (first | (go_at_call 60; refine (of_ne wr.drew b _ 1 [⟨#[83]⟩, ⟨#[65]⟩] _ HRD.out (by omega) (by decide) (by decide) (by intro x hx; simp at hx; rcases hx with rfl | rfl <;> decide)).mono ?_; rintro e wz ⟨o, o1, o2, rfl, hr, hg⟩; have HQ := Lib.hid (HX.out o wz o2 o1 hr hg); clear hr hg))
        all_goals
          go_wp2_with fail
          go_roundw
          case rel => exact HQ.out
          case measure => simp [intOf]
      · go_wp2_with fail
        go_roundw
        case rel => exact ⟨3, by omega, by omega, rfl, t, t1, by omega, rfl, HI.out.1.mono (by omega), HI.out.2⟩
        case measure => simp [intOf]
    · have HQ : Hid (TxtN b (K + 260) 69 w (.returned (.string t)) wr) := ⟨t, t1, by omega, rfl, HI.out.1.mono (by omega), HI.out.2⟩
      clear HI
      go_wp2_with fail
      go_ret
      exact HQ.out

/-- Two texts that are drawn. -/
def DrawTT (n m : Nat) (w : World) (e : Ending) (w' : World) : Prop := ∃ (t u : ByteArray), t.size ≤ n ∧ u.size ≤ m ∧ e = .returned (.tuple #[.string t, .string u]) ∧ Below w.heap.size w w'
/-- A structure and a text that are drawn. -/
def DrawSF (k : Nat) (w : World) (e : Ending) (w' : World) : Prop := ∃ (n : Int) (S R f : ByteArray), -1 ≤ n ∧ n ≤ 9223372036854775807 ∧ S.size ≤ 10 ∧ R.size ≤ 100 ∧ f.size ≤ k ∧ e = .returned (.tuple #[strV n S R, .string f]) ∧ Below w.heap.size w w'
/-- The reader, the result's box and the drawn structure's box. -/
structure Dv (w : World) (b K x : Nat) (n : Int) (S R : ByteArray) (wr : World) : Prop where
  rd : RdB wr b K
  res : SBlk wr w.heap.size 0 ⟨#[]⟩ ⟨#[]⟩
  a : SBlk wr x n S R
  ne : w.heap.size < b ∧ b < x
  old : Below w.heap.size w wr
section
variable {w : World} {b K K' x : Nat} {n : Int} {S R : ByteArray} {wr w' : World}
theorem Dv.pick (h : Dv w b K x n S R wr) (hr : RdB w' b K') (hg : wr.grownBy w' (some b)) : Dv w b K' x n S R w' := by
  have l1 := h.res.cells.2.2.2.2.2.2
  have l2 := h.a.cells.2.2.2.2.2.2
  obtain ⟨n1, n2⟩ := h.ne
  exact ⟨hr, (hg.block w.heap.size l1 (by intro e; injection e; omega)).trans h.res, (hg.block x l2 (by intro e; injection e; omega)).trans h.a, h.ne, below_of_grown h.old (by omega) hg⟩
theorem Dv.drew (h : Dv w b K x n S R wr) : Dv w b K x n S R wr.drew := ⟨rdB_drew h.rd, h.res.drew, h.a.drew, h.ne, h.old.drew⟩
end
/-- The beginning of a draw of a structure and formulas. -/
theorem Dv.first {w w1 w2 : World} {K : Nat} {m : Int} {T U : ByteArray} (hz : w.heap.size + 1 ≤ w1.heap.size) (hw1 : Below w.heap.size w w1) (hx : SBlk w1 w.heap.size 0 ⟨#[]⟩ ⟨#[]⟩) (b : Nat) (hb : w.heap.size < b) (hr : RdB w2 b K) (hg : w1.grownBy w2 (some b)) :
    Dv w b K w2.heap.size m T U (w2.alloc (.cells #[.int .i64 m, .string T, .string U] 24)) := by
  have hal : Below w2.heap.size w2 (w2.alloc (.cells #[.int .i64 m, .string T, .string U] 24)) := (Below.refl _ _).alloc (Nat.le_refl _) _
  have hlt := hx.cells.2.2.2.2.2.2
  have hx2 : SBlk w2 w.heap.size 0 ⟨#[]⟩ ⟨#[]⟩ := (hg.block w.heap.size hlt (by intro e; injection e; omega)).trans hx
  have hb2 := below_of_grown hw1 (by omega) hg
  exact ⟨rdB_bel hr hal, hx2.below hal hx2.cells.2.2.2.2.2.2, SBlk.new w2 m T U, ⟨hb, hr.block⟩, hb2.trans (hal.mono hb2.size)⟩
end Go.Proofs.YtjepegkbbbebkaaDoor
/- The draws of views: DrawInterpret, DrawPullBack, DrawComposeViews. Condition: the bytes are readable. -/
namespace Go.Proofs.YtjepegkbbbebkaaDoor
open Go.RowKit
set_option linter.unusedVariables false
set_option maxRecDepth 100000

theorem results_cell_tmp2 {fn : Func} {p u x : Tmp} {ty : TypeId} (h : fn.results = #[.cell p ty, .tmp u, .tmp x]) (tmps : Array Value) (P : Program) (w : World) :
    (results fn tmps).run P w =
      ((asAddr (tmps.getD p undef)).run P w).andThen fun a w₁ => ((loadVar ty a).run P w₁).andThen fun v w₂ => .ok (.tuple #[v, tmps.getD u undef, tmps.getD x undef]) w₂ := by
  simp only [results, h]
  simp [Sem.run_bind, Result.andThen]
/-- Three results: a structure in a variable, and two others. -/
theorem results_str3 {fn : Func} {p u x : Tmp} (h : fn.results = #[.cell p 24, .tmp u, .tmp x]) {tmps : Array Value} {w : World} {b : Nat} {n : Int} {S R : ByteArray} {v z : Value} (hp : tmps.getD p undef = .pointer (some ⟨b, 0, none⟩)) (hb : SBlk w b n S R) (hu : tmps.getD u undef = v) (hx : tmps.getD x undef = z) :
    (results fn tmps).run Tryd.prog w = .ok (.tuple #[strV n S R, v, z]) w := by
  rw [results_cell_tmp2 h, hp, hu, hx]
  have hl := run_loadVar_row (P := Tryd.prog) w b 24 24 #[.int .i64 n, .string S, .string R] (0, 0) _ hb Tryd.underlying24 rfl strInfo
  simp [asAddr, Result.andThen, hl, strV]
/-- A structure and two texts that are drawn. -/
def DrawSFF (w : World) (e : Ending) (w' : World) : Prop := ∃ (n : Int) (S R f g : ByteArray), -1 ≤ n ∧ n ≤ 9223372036854775807 ∧ S.size ≤ 10 ∧ R.size ≤ 100 ∧ f.size ≤ 70 ∧ g.size ≤ 70 ∧ e = .returned (.tuple #[strV n S R, .string f, .string g]) ∧ Below w.heap.size w w'
/-- Three texts that are drawn. -/
def DrawTTT (w : World) (e : Ending) (w' : World) : Prop := ∃ (t u v : ByteArray), t.size ≤ 70 ∧ u.size ≤ 70 ∧ v.size ≤ 70 ∧ e = .returned (.tuple #[.string t, .string u, .string v]) ∧ Below w.heap.size w w'
/-- Four texts that are drawn. -/
def Draw4T (w : World) (e : Ending) (w' : World) : Prop := ∃ (t u v x : ByteArray), t.size ≤ 70 ∧ u.size ≤ 70 ∧ v.size ≤ 70 ∧ x.size ≤ 70 ∧ e = .returned (.tuple #[.string t, .string u, .string v, .string x]) ∧ Below w.heap.size w w'
theorem results_t4 {fn : Func} {t u v x : Tmp} (h : fn.results = #[.tmp t, .tmp u, .tmp v, .tmp x]) (tmps : Array Value) (P : Program) (w : World) :
    (results fn tmps).run P w = .ok (.tuple #[tmps.getD t undef, tmps.getD u undef, tmps.getD v undef, tmps.getD x undef]) w := by
  simp [results, h]
end Go.Proofs.YtjepegkbbbebkaaDoor
/- The draw of Relativize; the program's FreeVars; what is known of a relativized formula. Conditions: the bytes are readable; the text is not long. -/
namespace Go.Proofs.YtjepegkbbbebkaaDoor
open Go.RowKit
set_option linter.unusedVariables false
set_option maxRecDepth 100000

set_option maxHeartbeats 2000000 in
theorem DrawRelativize_any (w : World) (a : Option Addr) (len cap : Nat) (zs : List Int) (h : IsRow .u8 w a len cap zs) :
    Calls Tryd.prog 14 #[.slice a len cap] w (DrawTT 72 70 w) := by
  have H := Lib.hid h; clear h
  go_enter Tryd.func14, Tryd.ntmps14
  go_wp2_with fail
  refine (l15Open_any _ _ _ _ _ H.out).mono ?_; rintro e w1 ⟨rfl, hr, hb, hs⟩
  have HR := Lib.hid hr; have HB := Lib.hid hb; clear hr hb hs
  generalize hB : w.heap.size = B at *
  have HW := Lib.hid hB; clear hB
  go_wp2_with fail
  refine (pickB _ B _ _ HR.out (by omega) (by omega) (by omega)).mono ?_; rintro e w2 ⟨d, rfl, d0, d1, hr, hg⟩
  have HR2 := Lib.hid hr; have HB2 := Lib.hid (below_g HB.out (Nat.le_of_lt HR.out.block) hg); clear hr hg
  go_wp2_with fail
  refine (of_ne w2 B _ 3 [⟨#[97, 98]⟩, ⟨#[97, 98, 99]⟩] _ HR2.out (by omega) (by decide) (by decide) (by intro x hx; simp at hx; rcases hx with rfl | rfl <;> decide)).mono ?_; rintro e w3 ⟨vs, v1, v3, rfl, hr, hg⟩
  have HR3 := Lib.hid hr; have HB3 := Lib.hid (below_g HB2.out (Nat.le_of_lt HR2.out.block) hg); clear hr hg
  go_wp2_with fail
  refine (pickB _ B _ _ HR3.out (by omega) (by omega) (by omega)).mono ?_; rintro e w4 ⟨c, rfl, c0, c1, hr, hg⟩
  have HR4 := Lib.hid hr; have HB4 := Lib.hid (below_g HB3.out (Nat.le_of_lt HR3.out.block) hg); clear hr hg
  obtain ⟨m, rfl⟩ := Int.eq_ofNat_of_zero_le d0
  have hm := nP4 (d := m + 1) (by omega)
  have hm1 : (1 + (m : Int)) = ((m + 1 : Nat) : Int) := by omega
  have HC : Hid (∀ cnt, Calls Tryd.prog 59 #[.pointer (some ⟨B, 0, none⟩), .int .i64 (1 + (m : Int)), .string vs, .bool cnt] w4 (TxtN B (0 + 1 + 1 + 1 + nP (m + 1) + 4) (tP (m + 1) + 8) w4)) := by
    intro cnt
    rw [hm1]
    exact l2Closed_any B vs cnt v1 (by omega) (m + 1) (by omega) w4 _ HR4.out (by omega)
  clear hm1
  generalize nP (m + 1) = N at *
  generalize tP (m + 1) = M at *
  go_wp2_with fail
  refine (HC.out _).mono ?_; rintro e w5 ⟨f, f1, f2, rfl, hr, hg⟩
  have HR5 := Lib.hid hr; have HB5 := Lib.hid (below_g HB4.out (Nat.le_of_lt HR4.out.block) hg); clear hr hg
  go_wp2_with fail
  refine (l2Bad_any B 71 f f1 (by omega) (by omega) w5 _ HR5.out (by omega)).mono ?_; rintro e w6 ⟨g, g2, rfl, hr, hg⟩
  have HR6 := Lib.hid hr; have HB6 := Lib.hid (below_g HB5.out (Nat.le_of_lt HR5.out.block) hg); clear hr hg
  go_wp2_with fail
  refine (l11Draw_any B _ 1 (by omega) w6 HR6.out (by omega)).mono ?_; rintro e w7 ⟨x, x1, x2, rfl, hr, hg⟩
  have HR7 := Lib.hid hr; have HB7 := Lib.hid (below_g HB6.out (Nat.le_of_lt HR6.out.block) hg); clear hr hg
  go_wp2_with fail
  refine (l2Bad_any B 69 x x1 x2 (by omega) w7 _ HR7.out (by omega)).mono ?_; rintro e w8 ⟨y, yz, rfl, hr, hg⟩
  have HP : Hid (DrawTT 72 70 w (.returned (.tuple #[.string g, .string y])) w8) := by
    have hB := HW.out
    refine ⟨g, y, g2, yz, rfl, ?_⟩
    rw [hB]
    exact below_g HB7.out (Nat.le_of_lt HR7.out.block) hg
  clear hr hg
  go_wp2
  go_ret2
  exact HP.out
/-- Empty exactly for no variables. -/
def EmptyIf (t : ByteArray) (s : Nat) : Prop := t.size = 0 ↔ s = 0
theorem emptyIf_bool {t : ByteArray} {s : Nat} (h : EmptyIf t s) : t.toList.isEmpty = decide (s = 0) := by
  have h : t.size = 0 ↔ s = 0 := h
  rw [Bool.eq_iff_iff, decide_eq_true_iff, ← h, List.isEmpty_iff, Lib.toList_data]
  constructor
  · intro h
    show t.data.size = 0
    rw [← Array.length_toList, h]; rfl
  · intro h
    refine List.eq_nil_of_length_eq_zero ?_
    rw [Array.length_toList]; exact h
theorem ex1R {s : ByteArray} {k : Nat} (h : k < s.size) : (s.extract k (k + 1)).size = 1 := by simp; omega
theorem varsTextR_any (s : Nat) (hs : s < 16) (w : World) : Calls Tryd.prog 70 #[.int .i64 (s : Int)] w fun e w' => (∃ t : ByteArray, EmptyIf t s ∧ e = .returned (.string t)) ∧ w' = w := by
  go_enter Tryd.func70, Tryd.ntmps70
  go_wp2_with fail
  go_loop [5, 3] (fun q v => ∃ i : Nat, i ≤ 4 ∧ q = .int .i64 (i : Int) ∧ ∃ t : ByteArray, t.size ≤ i ∧ Hid (t.size = 0 ↔ s % 2 ^ i = 0) ∧ v = .string t) (fun q _ => 4 - (intOf q).toNat)
  case atStart => exact ⟨0, by omega, rfl, _, Nat.le_refl _, ⟨fun _ => Nat.mod_one _, fun _ => rfl⟩, rfl⟩
  case round =>
    obtain ⟨i, hi, rfl, t, ht, H0, rfl⟩ := hrel
    by_cases h4 : i < 4
    · have hx : ((⟨#[97, 98, 99, 100]⟩ : ByteArray).extract i (i + 1)).size = 1 := ex1R (s := ⟨#[97, 98, 99, 100]⟩) h4
      obtain ⟨j, hj⟩ : ∃ j, j = i + 1 := ⟨_, rfl⟩
      have b0 : (bits BinOp.and IntKind.i64 0 1 == 1) = false := by decide
      have b1 : (bits BinOp.and IntKind.i64 1 1 == 1) = true := by decide
      have b2 : (bits BinOp.and IntKind.i64 2 1 == 1) = false := by decide
      have b3 : (bits BinOp.and IntKind.i64 3 1 == 1) = true := by decide
      have b4 : (bits BinOp.and IntKind.i64 4 1 == 1) = false := by decide
      have b5 : (bits BinOp.and IntKind.i64 5 1 == 1) = true := by decide
      have b6 : (bits BinOp.and IntKind.i64 6 1 == 1) = false := by decide
      have b7 : (bits BinOp.and IntKind.i64 7 1 == 1) = true := by decide
      have b8 : (bits BinOp.and IntKind.i64 8 1 == 1) = false := by decide
      have b9 : (bits BinOp.and IntKind.i64 9 1 == 1) = true := by decide
      have b10 : (bits BinOp.and IntKind.i64 10 1 == 1) = false := by decide
      have b11 : (bits BinOp.and IntKind.i64 11 1 == 1) = true := by decide
      have b12 : (bits BinOp.and IntKind.i64 12 1 == 1) = false := by decide
      have b13 : (bits BinOp.and IntKind.i64 13 1 == 1) = true := by decide
      have b14 : (bits BinOp.and IntKind.i64 14 1 == 1) = false := by decide
      have b15 : (bits BinOp.and IntKind.i64 15 1 == 1) = true := by decide
      rcases (by omega : s = 0 ∨ s = 1 ∨ s = 2 ∨ s = 3 ∨ s = 4 ∨ s = 5 ∨ s = 6 ∨ s = 7 ∨ s = 8 ∨ s = 9 ∨ s = 10 ∨ s = 11 ∨ s = 12 ∨ s = 13 ∨ s = 14 ∨ s = 15) with rfl | rfl | rfl | rfl | rfl | rfl | rfl | rfl | rfl | rfl | rfl | rfl | rfl | rfl | rfl | rfl <;>
      rcases (by omega : i = 0 ∨ i = 1 ∨ i = 2 ∨ i = 3) with rfl | rfl | rfl | rfl
      all_goals
        go_wp2_with fail
        go_round
        case rel =>
          first
          | exact ⟨j, by omega, by subst hj; rfl, t, by omega, (by have h := H0.out; subst hj; show _ ↔ _; simpa using h), rfl⟩
          | exact ⟨j, by omega, by subst hj; rfl, _, by rw [ByteArray.size_append, hx]; omega, (by subst hj; show _ ↔ _; rw [ByteArray.size_append, hx]; simp), rfl⟩
        case measure => simp [intOf]
    · obtain rfl : i = 4 := by omega
      have HE : Hid (EmptyIf t s) := by
        have h := H0.out
        show _ ↔ _
        rw [h]; omega
      go_wp2_with fail
      go_ret
      exact ⟨⟨t, HE.out, rfl⟩, rfl⟩
/-- Whether a formula's text has no free variables, told by FreeVars. -/
theorem implFreeVars_any (f : ByteArray) (φ : Fm.T) (hr : readB f = some φ) (hf : f.size ≤ 9223372036854775807) (w : World) :
    Calls Tryd.prog 19 #[.string f] w fun e w' => (∃ t : ByteArray, t.toList.isEmpty = decide (Fm.free φ = 0) ∧ e = .returned (.string t)) ∧ Below w.heap.size w w' := by
  have HP := Lib.hid (fun w => parseFormula_any f w hf)
  rw [hr] at HP
  have hlt := Fm.free_lt φ
  have HV := Lib.hid (fun w => varsTextR_any (Fm.free φ) hlt w)
  obtain ⟨fr, hfr⟩ : ∃ fr, Fm.free φ = fr := ⟨_, rfl⟩
  rw [hfr] at HV hlt
  rw [hfr]
  have HFR := Lib.hid hfr
  clear hr hfr
  go_enter Tryd.func19, Tryd.ntmps19
  go_wp2_with fail
  refine (HP.out _).mono ?_; rintro e w1 ⟨hb, ⟨h, _⟩ | ⟨φ', p, h, rfl, ht⟩⟩
  · cases h
  · obtain rfl := Option.some.inj h
    have HB := Lib.hid hb; clear hb h
    obtain ⟨v, u, qs, nd, _⟩ := ht.node
    have c3 := nd.cells.2.2.2.1
    rw [HFR.out] at c3
    clear nd ht
    unfold ptrV
    go_wp2_with fail
    refine (HV.out _).mono ?_; rintro _ w2 ⟨⟨t, ht0, rfl⟩, hw2⟩; rw [hw2]; clear hw2 w2
    have HT := Lib.hid (emptyIf_bool ht0)
    clear ht0
    go_wp2_with fail
    go_ret
    exact ⟨⟨t, HT.out, rfl⟩, HB.out⟩
/-- What is known of a relativized formula. -/
structure RrOk (h f k : ByteArray) (χ i κ : Fm.T) : Prop where
  turn : shortV (relRes h f) = .tuple #[.string k, .bool true]
  size : k.size ≤ 4000
  rh : readB h = some χ
  rf : readB f = some i
  rk : readB k = some κ
  up : Fm.Upto 1 i
  f2 : Fm.free i / 2 = 0
  is : Fm.within i χ = some κ
theorem rr_is (h f : ByteArray) : shortV (relRes h f) = .tuple #[.string ⟨#[]⟩, .bool false] ∨ ∃ k χ i κ, RrOk h f k χ i κ := by
  cases hh : readB h with
  | none => left; rw [rr_none1 hh]; rfl
  | some χ =>
    cases hf : readB f with
    | none => left; rw [rr_none2 hf]; rfl
    | some i =>
      have hp := rr_some hh hf
      by_cases h0 : Fm.free i / 2 = 0
      · rw [if_pos h0] at hp
        cases hk : Fm.within i χ with
        | none => left; rw [hp, hk]; rfl
        | some κ =>
          rw [hk] at hp
          by_cases hl : (Fm.text κ).length ≤ 4000
          · right
            refine ⟨txtS (Fm.text κ), χ, i, κ, ?_, ?_, (by first | exact hh | rfl), (by first | exact hf | rfl), readB_txt hl, fun u hu => ?_, h0, hk⟩
            · rw [hp]
              show (if _ then _ else _) = _
              rw [if_pos hl]
            · rw [txtS_size]; exact hl
            · rw [upto1 h0 u hu]; decide
          · left; rw [hp]
            show (if _ then _ else _) = _
            rw [if_neg hl]
      · rw [if_neg h0] at hp
        left; rw [hp]; rfl
theorem hin_closed {f : ByteArray} {φ : Fm.T} (h : readB f = some φ) (h0 : Fm.free φ = 0) (a : Gs.St) : Go.Proofs.YtjepegkbbbebkaaDoor.hin f a = (Fm.holds a φ (fun _ => 0), true) := by
  unfold Go.Proofs.YtjepegkbbbebkaaDoor.hin; rw [h]; exact if_pos h0
theorem holds_free {a : Gs.St} {φ : Fm.T} (h0 : Fm.free φ = 0) (e e' : Fm.Env) : Fm.holds a φ e = Fm.holds a φ e' := Fm.holds_congr a φ fun u hu => by
  rw [h0, Nat.zero_testBit] at hu; cases hu
theorem env1_2 (x : Nat) : Fm.env1 x = Go.Proofs.YtjepegkbbbebkaaDoor.env2 x 0 := (env2_1 x).symm
/-- In a structure and in the part of it. -/
theorem RrOk.part {h f k : ByteArray} {χ i κ : Fm.T} (o : RrOk h f k χ i κ) (h0 : Fm.free χ = 0) (m : Nat) (S R : ByteArray) (hD : 0 < (defTo (stOf m S R) i m).length) :
    Fm.holds (stOf m S R) κ (fun _ => 0) = Fm.holds (stOf (defTo (stOf m S R) i m).length (bitsOf (fun x => oneAt S ((defTo (stOf m S R) i m).getD x 0)) (defTo (stOf m S R) i m).length) (gridOf (fun x y => relAt m R ((defTo (stOf m S R) i m).getD x 0) ((defTo (stOf m S R) i m).getD y 0)) (defTo (stOf m S R) i m).length)) χ (fun _ => 0) := by
  have hk0 := Fm.within_closed o.up o.is h0
  have e : defTo (stOf m S R) i m = (List.range (stOf m S R).n).filter fun x => Fm.holds (stOf m S R) i (Fm.env1 x) := by
    unfold defTo
    congr 1
    funext x
    rw [env1_2]
  have hw := Fm.holds_within (stOf m S R) o.up χ o.is (fun _ => 0) (fun _ => by rw [← e]; exact hD)
  rw [← e] at hw
  rw [holds_free hk0 (fun _ => 0) _, hw]
  refine Fm.holds_ext (a := Fm.partG (stOf m S R) (defTo (stOf m S R) i m)) (b := stOf (defTo (stOf m S R) i m).length (bitsOf (fun x => oneAt S ((defTo (stOf m S R) i m).getD x 0)) (defTo (stOf m S R) i m).length) (gridOf (fun x y => relAt m R ((defTo (stOf m S R) i m).getD x 0) ((defTo (stOf m S R) i m).getD y 0)) (defTo (stOf m S R) i m).length)) rfl (fun x hx => ?_) (fun x y hx hy => ?_) χ _ (fun _ => hD)
  · exact (oneAt_bitsI _ _ _ hx).symm
  · exact (relAt_gridI _ _ _ _ hx hy).symm
end Go.Proofs.YtjepegkbbbebkaaDoor
namespace Go.Proofs.YtjepegkbbbebkaaDoor
open Go.RowKit
set_option linter.unusedVariables false
set_option maxRecDepth 100000

theorem rowLen48 {k : IntKind} {w : World} {a : Option Addr} {len cap : Nat} {zs : List Int} (h : IsRow k w a len cap zs) : len ≤ maxLen := by
  rcases h with ⟨_, h, _⟩ | ⟨_, _, h1, h2, _⟩
  · rw [h]; decide
  · omega
theorem nat_valid48 {n : Int} {S R : ByteArray} (h : validB n S R = true) : ∃ m : Nat, n = (m : Int) := by
  have h0 := h
  unfold validB inB at h0
  simp at h0
  exact Int.eq_ofNat_of_zero_le (by omega)
theorem hin_none48 (a : Gs.St) : Go.Proofs.YtjepegkbbbebkaaDoor.hin ⟨#[]⟩ a = (false, false) := by
  have h : readB ⟨#[]⟩ = none := rfl
  unfold Go.Proofs.YtjepegkbbbebkaaDoor.hin; rw [h]
theorem read_t48 : readB ⟨#[116]⟩ = some (.lit true) := rfl
theorem pw48 {h f k : ByteArray} {χ i κ : Fm.T} (o : RrOk h f k χ i κ) (m : Nat) (S R : ByteArray) (hv : validB m S R = true) :
    pwRes f m S R = if (defTo (stOf m S R) i m).length = 0 then .tuple #[strV 0 ByteArray.empty ByteArray.empty, .bool false] else .tuple #[partV m S R (defTo (stOf m S R) i m), .bool true] := by
  have h1 := defSet_some (n := (m : Int)) (S := S) (R := R) o.rf
  rw [if_pos ⟨hv, o.f2⟩, Int.toNat_natCast] at h1
  rw [pwRes_some h1, Int.toNat_natCast]
set_option maxHeartbeats 4000000 in
theorem fnRelativize_walk (a0 : Option Addr) (len0 cap0 : Nat) (z0 : List Int) (a1 : Option Addr) (len1 cap1 : Nat) (z1 : List Int) (w : World) (w0 : IsRow .u8 w a0 len0 cap0 z0) (w1 : IsRow .u8 w a1 len1 cap1 z1) :
    Calls Tryd.prog 4 #[.slice a0 len0 cap0, .slice a1 len1 cap1] w fun e w' => e = .returned (.bool true) ∧ Below w.heap.size w w' := by
  have m0 := rowLen48 w0
  have m1 := rowLen48 w1
  unfold maxLen at m0 m1
  have W0 := Lib.hid w0; have W1 := Lib.hid w1; clear w0 w1
  by_cases l0 : (len0 : Int) ≤ 1048576
  · by_cases l1 : (len1 : Int) ≤ 1048576
    · go_enter Tryd.func4, Tryd.ntmps4
      go_wp2_with fail
      refine (DrawRelativize_any _ _ _ _ _ W0.out).mono ?_; rintro e w1 ⟨h, f, hz, fz, rfl, hb⟩
      have HB1 := Lib.hid hb; clear hb
      have HI := Lib.hid (fun w => implRelativize_any h f (by omega) (by omega) w)
      have HS := Lib.hid (fun w => specRelativize_any h f (by omega) (by omega) w)
      rcases rr_is h f with hn | ⟨k, χ, i, κ, hk⟩
      · rw [hn] at HI HS
        clear hn
        go_wp2_with fail
        refine (HI.out _).mono ?_; rintro e w2 ⟨rfl, hb⟩
        have HB2 := Lib.hid (HB1.out.trans (hb.mono HB1.out.size))
        clear hb
        go_wp2_with fail
        refine (HS.out _).mono ?_; rintro e w3 ⟨rfl, hb⟩
        have HB3 := Lib.hid (HB2.out.trans (hb.mono HB2.out.size))
        clear hb
        go_wp2_with fail
        go_ret
        exact ⟨rfl, HB3.out⟩
      · rw [hk.turn] at HI HS
        have hkz := hk.size
        have HK := Lib.hid hk
        have HFV := Lib.hid (fun w => implFormulaValid_any k (by omega) w)
        rw [hk.rk] at HFV
        simp only [Option.isSome_some] at HFV
        have HRK := Lib.hid (fun w => RankOf_any k w (by omega))
        have HFR := Lib.hid (fun w => implFreeVars_any h χ hk.rh (by omega) w)
        obtain ⟨b1, b2⟩ := rank_bound k
        generalize rankV k = rk at *
        clear hk
        go_wp2_with fail
        refine (HI.out _).mono ?_; rintro e w2 ⟨rfl, hb⟩
        have HB2 := Lib.hid (HB1.out.trans (hb.mono HB1.out.size))
        clear hb
        go_wp2_with fail
        refine (HS.out _).mono ?_; rintro e w3 ⟨rfl, hb⟩
        have HB3 := Lib.hid (HB2.out.trans (hb.mono HB2.out.size))
        clear hb
        go_wp2_with fail
        refine (DrawCount_any _ _ _ _ _ (W1.out.below HB3.out)).mono ?_; rintro e w4 ⟨n, S, R, n0, n1, hS, hR, rfl, hb⟩
        have HB4 := Lib.hid (HB3.out.trans (hb.mono HB3.out.size)); clear hb HI HS
        have HSV := Lib.hid (fun w => implStructureValid_any n S R (by omega) (by omega) w)
        have HPW := Lib.hid (fun w => implPartWhere_any f (by omega) n S R (by omega) (by omega) w)
        cases hv : validB n S R
        · rw [hv] at HSV
          unfold strV at HSV ⊢
          clear hv HPW
          have hal : Below w4.heap.size w4 (w4.alloc (.cells #[.int .i64 n, .string S, .string R] 24)) := (Below.refl _ _).alloc (Nat.le_refl _) _
          have HB5 := Lib.hid (HB4.out.trans (hal.mono HB4.out.size))
          have HXa5 : Hid (SBlk (w4.alloc (.cells #[.int .i64 n, .string S, .string R] 24)) w4.heap.size n S R) := SBlk.new w4 n S R
          clear hal
          obtain ⟨ca0, ca1, ca2, fa0, fa1, fa2, ba⟩ := HXa5.out.cells
          go_wp2_with fail
          refine (HSV.out _).mono ?_; rintro e w6 ⟨rfl, hb⟩
          have HB6 := Lib.hid (HB5.out.trans (hb.mono HB5.out.size))
          have HXa6 := Lib.hid (HXa5.out.below hb HXa5.out.cells.2.2.2.2.2.2)
          clear hb
          clear ca0 ca1 ca2 fa0 fa1 fa2 ba
          go_wp2_with fail
          refine (HFV.out _).mono ?_; rintro e w7 ⟨rfl, hb⟩
          have HB7 := Lib.hid (HB6.out.trans (hb.mono HB6.out.size))
          have HXa7 := Lib.hid (HXa6.out.below hb HXa6.out.cells.2.2.2.2.2.2)
          clear hb
          go_wp2_with fail
          go_ret
          exact ⟨rfl, HB7.out⟩
        · rw [hv] at HSV
          obtain ⟨m, rfl⟩ := nat_valid48 hv
          obtain ⟨h1, h8, _⟩ := valid_is hv
          have HV := Lib.hid hv
          clear hv
          unfold strV at HSV ⊢
          have hal : Below w4.heap.size w4 (w4.alloc (.cells #[.int .i64 (m : Int), .string S, .string R] 24)) := (Below.refl _ _).alloc (Nat.le_refl _) _
          have HB5 := Lib.hid (HB4.out.trans (hal.mono HB4.out.size))
          have HXa5 : Hid (SBlk (w4.alloc (.cells #[.int .i64 (m : Int), .string S, .string R] 24)) w4.heap.size (m : Int) S R) := SBlk.new w4 (m : Int) S R
          clear hal
          obtain ⟨ca0, ca1, ca2, fa0, fa1, fa2, ba⟩ := HXa5.out.cells
          by_cases h5 : m ≤ 5
          · have h5I : (m : Int) ≤ 5 := by omega
            by_cases hr7 : rk ≤ 7
            · by_cases hf0 : Fm.free χ = 0
              · rw [hf0] at HFR
                simp only [decide_true] at HFR
                have HHK := Lib.hid (fun w => implHoldsIn_any k (by omega) m S R HV.out w)
                rw [hin_closed HK.out.rk (Fm.within_closed HK.out.up HK.out.is hf0)] at HHK
                have HHP := Lib.hid (fun N T U hv w => implHoldsIn_any h (by omega) N T U hv w)
                rw [pw48 HK.out m S R HV.out] at HPW
                have HPT := Lib.hid (HK.out.part hf0 m S R)
                have hdl := defTo_length (stOf m S R) i m
                by_cases hD : (defTo (stOf m S R) i m).length = 0
                · rw [if_pos hD] at HPW
                  have HHH := Lib.hid (HHP.out m S R HV.out)
                  rw [hin_closed HK.out.rh hf0] at HHH
                  have HI2 := Lib.hid (fun w => implRelativize_any h ⟨#[116]⟩ (by omega) (by decide) w)
                  unfold strV at HPW HHK HHH
                  generalize Fm.holds (stOf m S R) κ (fun _ => 0) = bk at *
                  clear hD hdl HPT HHP
                  rcases rr_is h ⟨#[116]⟩ with hn | ⟨k2, χ2, i2, κ2, hk2⟩
                  · rw [hn] at HI2
                    have HHE := Lib.hid (fun w => implHoldsIn_any ⟨#[]⟩ (by decide) m S R HV.out w)
                    rw [hin_none48] at HHE
                    unfold strV at HHE
                    generalize Fm.holds (stOf m S R) χ (fun _ => 0) = bh at *
                    clear hn
                    go_wp2_with fail
                    refine (HSV.out _).mono ?_; rintro e w6 ⟨rfl, hb⟩
                    have HB6 := Lib.hid (HB5.out.trans (hb.mono HB5.out.size))
                    have HXa6 := Lib.hid (HXa5.out.below hb HXa5.out.cells.2.2.2.2.2.2)
                    clear hb
                    clear ca0 ca1 ca2 fa0 fa1 fa2 ba
                    obtain ⟨ca0, ca1, ca2, fa0, fa1, fa2, ba⟩ := HXa6.out.cells
                    go_wp2_with fail
                    refine (HRK.out _).mono ?_; rintro e w7 ⟨rfl, hb⟩
                    have HB7 := Lib.hid (HB6.out.trans (hb.mono HB6.out.size))
                    have HXa7 := Lib.hid (HXa6.out.below hb HXa6.out.cells.2.2.2.2.2.2)
                    clear hb
                    clear ca0 ca1 ca2 fa0 fa1 fa2 ba
                    obtain ⟨ca0, ca1, ca2, fa0, fa1, fa2, ba⟩ := HXa7.out.cells
                    go_wp2_with fail
                    refine (HFR.out _).mono ?_; rintro e wf ⟨⟨tv, htv, rfl⟩, hb⟩
                    have HB8 := Lib.hid (HB7.out.trans (hb.mono HB7.out.size))
                    have HXa8 := Lib.hid (HXa7.out.below hb HXa7.out.cells.2.2.2.2.2.2)
                    clear hb
                    clear ca0 ca1 ca2 fa0 fa1 fa2 ba
                    obtain ⟨ca0, ca1, ca2, fa0, fa1, fa2, ba⟩ := HXa8.out.cells
                    go_wp2_with fail
                    refine (HPW.out _).mono ?_; rintro e w9 ⟨rfl, hb⟩
                    have HB9 := Lib.hid (HB8.out.trans (hb.mono HB8.out.size))
                    have HXa9 := Lib.hid (HXa8.out.below hb HXa8.out.cells.2.2.2.2.2.2)
                    clear hb
                    clear ca0 ca1 ca2 fa0 fa1 fa2 ba
                    obtain ⟨ca0, ca1, ca2, fa0, fa1, fa2, ba⟩ := HXa9.out.cells
                    have hal : Below w9.heap.size w9 (w9.alloc (.cells #[.int .i64 0, .string ByteArray.empty, .string ByteArray.empty] 24)) := (Below.refl _ _).alloc (Nat.le_refl _) _
                    have HB10 := Lib.hid (HB9.out.trans (hal.mono HB9.out.size))
                    have HXa10 := Lib.hid (HXa9.out.below hal HXa9.out.cells.2.2.2.2.2.2)
                    have HXb10 : Hid (SBlk (w9.alloc (.cells #[.int .i64 0, .string ByteArray.empty, .string ByteArray.empty] 24)) w9.heap.size 0 ByteArray.empty ByteArray.empty) := SBlk.new w9 0 ByteArray.empty ByteArray.empty
                    clear hal
                    clear ca0 ca1 ca2 fa0 fa1 fa2 ba
                    obtain ⟨ca0, ca1, ca2, fa0, fa1, fa2, ba⟩ := HXa10.out.cells
                    go_wp2_with fail
                    refine (HHK.out _).mono ?_; rintro e w11 ⟨rfl, hb⟩
                    have HB11 := Lib.hid (HB10.out.trans (hb.mono HB10.out.size))
                    have HXa11 := Lib.hid (HXa10.out.below hb HXa10.out.cells.2.2.2.2.2.2)
                    have HXb11 := Lib.hid (HXb10.out.below hb HXb10.out.cells.2.2.2.2.2.2)
                    clear hb
                    clear ca0 ca1 ca2 fa0 fa1 fa2 ba
                    obtain ⟨ca0, ca1, ca2, fa0, fa1, fa2, ba⟩ := HXa11.out.cells
                    go_wp2_with fail
                    refine (HI2.out _).mono ?_; rintro e w12 ⟨rfl, hb⟩
                    have HB12 := Lib.hid (HB11.out.trans (hb.mono HB11.out.size))
                    have HXa12 := Lib.hid (HXa11.out.below hb HXa11.out.cells.2.2.2.2.2.2)
                    have HXb12 := Lib.hid (HXb11.out.below hb HXb11.out.cells.2.2.2.2.2.2)
                    clear hb
                    clear ca0 ca1 ca2 fa0 fa1 fa2 ba
                    obtain ⟨ca0, ca1, ca2, fa0, fa1, fa2, ba⟩ := HXa12.out.cells
                    go_wp2_with fail
                    refine (HHE.out _).mono ?_; rintro e w13 ⟨rfl, hb⟩
                    have HB13 := Lib.hid (HB12.out.trans (hb.mono HB12.out.size))
                    have HXa13 := Lib.hid (HXa12.out.below hb HXa12.out.cells.2.2.2.2.2.2)
                    have HXb13 := Lib.hid (HXb12.out.below hb HXb12.out.cells.2.2.2.2.2.2)
                    clear hb
                    clear ca0 ca1 ca2 fa0 fa1 fa2 ba
                    obtain ⟨ca0, ca1, ca2, fa0, fa1, fa2, ba⟩ := HXa13.out.cells
                    go_wp2_with fail
                    refine (HHH.out _).mono ?_; rintro e w14 ⟨rfl, hb⟩
                    have HB14 := Lib.hid (HB13.out.trans (hb.mono HB13.out.size))
                    have HXa14 := Lib.hid (HXa13.out.below hb HXa13.out.cells.2.2.2.2.2.2)
                    have HXb14 := Lib.hid (HXb13.out.below hb HXb13.out.cells.2.2.2.2.2.2)
                    clear hb
                    clear ca0 ca1 ca2 fa0 fa1 fa2 ba
                    go_wp2_with fail
                    go_ret
                    exact ⟨rfl, HB14.out⟩
                  · rw [hk2.turn] at HI2
                    obtain rfl : i2 = .lit true := Option.some.inj (hk2.rf.symm.trans read_t48)
                    obtain rfl : χ2 = χ := Option.some.inj (hk2.rh.symm.trans HK.out.rh)
                    have HHE := Lib.hid (fun w => implHoldsIn_any k2 (by have := hk2.size; omega) m S R HV.out w)
                    rw [hin_closed hk2.rk (Fm.within_closed hk2.up hk2.is hf0), Fm.holds_true _ _ hk2.is] at HHE
                    unfold strV at HHE
                    generalize Fm.holds (stOf m S R) χ2 (fun _ => 0) = bh at *
                    clear hk2
                    go_wp2_with fail
                    refine (HSV.out _).mono ?_; rintro e w6 ⟨rfl, hb⟩
                    have HB6 := Lib.hid (HB5.out.trans (hb.mono HB5.out.size))
                    have HXa6 := Lib.hid (HXa5.out.below hb HXa5.out.cells.2.2.2.2.2.2)
                    clear hb
                    clear ca0 ca1 ca2 fa0 fa1 fa2 ba
                    obtain ⟨ca0, ca1, ca2, fa0, fa1, fa2, ba⟩ := HXa6.out.cells
                    go_wp2_with fail
                    refine (HRK.out _).mono ?_; rintro e w7 ⟨rfl, hb⟩
                    have HB7 := Lib.hid (HB6.out.trans (hb.mono HB6.out.size))
                    have HXa7 := Lib.hid (HXa6.out.below hb HXa6.out.cells.2.2.2.2.2.2)
                    clear hb
                    clear ca0 ca1 ca2 fa0 fa1 fa2 ba
                    obtain ⟨ca0, ca1, ca2, fa0, fa1, fa2, ba⟩ := HXa7.out.cells
                    go_wp2_with fail
                    refine (HFR.out _).mono ?_; rintro e wf ⟨⟨tv, htv, rfl⟩, hb⟩
                    have HB8 := Lib.hid (HB7.out.trans (hb.mono HB7.out.size))
                    have HXa8 := Lib.hid (HXa7.out.below hb HXa7.out.cells.2.2.2.2.2.2)
                    clear hb
                    clear ca0 ca1 ca2 fa0 fa1 fa2 ba
                    obtain ⟨ca0, ca1, ca2, fa0, fa1, fa2, ba⟩ := HXa8.out.cells
                    go_wp2_with fail
                    refine (HPW.out _).mono ?_; rintro e w9 ⟨rfl, hb⟩
                    have HB9 := Lib.hid (HB8.out.trans (hb.mono HB8.out.size))
                    have HXa9 := Lib.hid (HXa8.out.below hb HXa8.out.cells.2.2.2.2.2.2)
                    clear hb
                    clear ca0 ca1 ca2 fa0 fa1 fa2 ba
                    obtain ⟨ca0, ca1, ca2, fa0, fa1, fa2, ba⟩ := HXa9.out.cells
                    have hal : Below w9.heap.size w9 (w9.alloc (.cells #[.int .i64 0, .string ByteArray.empty, .string ByteArray.empty] 24)) := (Below.refl _ _).alloc (Nat.le_refl _) _
                    have HB10 := Lib.hid (HB9.out.trans (hal.mono HB9.out.size))
                    have HXa10 := Lib.hid (HXa9.out.below hal HXa9.out.cells.2.2.2.2.2.2)
                    have HXb10 : Hid (SBlk (w9.alloc (.cells #[.int .i64 0, .string ByteArray.empty, .string ByteArray.empty] 24)) w9.heap.size 0 ByteArray.empty ByteArray.empty) := SBlk.new w9 0 ByteArray.empty ByteArray.empty
                    clear hal
                    clear ca0 ca1 ca2 fa0 fa1 fa2 ba
                    obtain ⟨ca0, ca1, ca2, fa0, fa1, fa2, ba⟩ := HXa10.out.cells
                    go_wp2_with fail
                    refine (HHK.out _).mono ?_; rintro e w11 ⟨rfl, hb⟩
                    have HB11 := Lib.hid (HB10.out.trans (hb.mono HB10.out.size))
                    have HXa11 := Lib.hid (HXa10.out.below hb HXa10.out.cells.2.2.2.2.2.2)
                    have HXb11 := Lib.hid (HXb10.out.below hb HXb10.out.cells.2.2.2.2.2.2)
                    clear hb
                    clear ca0 ca1 ca2 fa0 fa1 fa2 ba
                    obtain ⟨ca0, ca1, ca2, fa0, fa1, fa2, ba⟩ := HXa11.out.cells
                    go_wp2_with fail
                    refine (HI2.out _).mono ?_; rintro e w12 ⟨rfl, hb⟩
                    have HB12 := Lib.hid (HB11.out.trans (hb.mono HB11.out.size))
                    have HXa12 := Lib.hid (HXa11.out.below hb HXa11.out.cells.2.2.2.2.2.2)
                    have HXb12 := Lib.hid (HXb11.out.below hb HXb11.out.cells.2.2.2.2.2.2)
                    clear hb
                    clear ca0 ca1 ca2 fa0 fa1 fa2 ba
                    obtain ⟨ca0, ca1, ca2, fa0, fa1, fa2, ba⟩ := HXa12.out.cells
                    go_wp2_with fail
                    refine (HHE.out _).mono ?_; rintro e w13 ⟨rfl, hb⟩
                    have HB13 := Lib.hid (HB12.out.trans (hb.mono HB12.out.size))
                    have HXa13 := Lib.hid (HXa12.out.below hb HXa12.out.cells.2.2.2.2.2.2)
                    have HXb13 := Lib.hid (HXb12.out.below hb HXb12.out.cells.2.2.2.2.2.2)
                    clear hb
                    clear ca0 ca1 ca2 fa0 fa1 fa2 ba
                    obtain ⟨ca0, ca1, ca2, fa0, fa1, fa2, ba⟩ := HXa13.out.cells
                    go_wp2_with fail
                    refine (HHH.out _).mono ?_; rintro e w14 ⟨rfl, hb⟩
                    have HB14 := Lib.hid (HB13.out.trans (hb.mono HB13.out.size))
                    have HXa14 := Lib.hid (HXa13.out.below hb HXa13.out.cells.2.2.2.2.2.2)
                    have HXb14 := Lib.hid (HXb13.out.below hb HXb13.out.cells.2.2.2.2.2.2)
                    clear hb
                    clear ca0 ca1 ca2 fa0 fa1 fa2 ba
                    go_wp2_with fail
                    go_ret
                    exact ⟨ret_bool (by simp), HB14.out⟩
                · rw [if_neg hD] at HPW
                  have hp := HPT.out (by omega)
                  have hvp := valid_bits (n := (defTo (stOf m S R) i m).length) (by omega) (by omega) (fun x => oneAt S ((defTo (stOf m S R) i m).getD x 0)) (fun x y => relAt m R ((defTo (stOf m S R) i m).getD x 0) ((defTo (stOf m S R) i m).getD y 0))
                  have HHH := Lib.hid (HHP.out _ _ _ hvp)
                  rw [hin_closed HK.out.rh hf0, ← hp] at HHH
                  unfold partV at HPW
                  generalize Fm.holds (stOf m S R) κ (fun _ => 0) = bk at *
                  generalize bitsOf (fun x => oneAt S ((defTo (stOf m S R) i m).getD x 0)) (defTo (stOf m S R) i m).length = TS at *
                  generalize gridOf (fun x y => relAt m R ((defTo (stOf m S R) i m).getD x 0) ((defTo (stOf m S R) i m).getD y 0)) (defTo (stOf m S R) i m).length = TR at *
                  generalize (defTo (stOf m S R) i m).length = N at *
                  unfold strV at HPW HHK HHH
                  clear hp hvp HPT HHP
                  go_wp2_with fail
                  refine (HSV.out _).mono ?_; rintro e w6 ⟨rfl, hb⟩
                  have HB6 := Lib.hid (HB5.out.trans (hb.mono HB5.out.size))
                  have HXa6 := Lib.hid (HXa5.out.below hb HXa5.out.cells.2.2.2.2.2.2)
                  clear hb
                  clear ca0 ca1 ca2 fa0 fa1 fa2 ba
                  obtain ⟨ca0, ca1, ca2, fa0, fa1, fa2, ba⟩ := HXa6.out.cells
                  go_wp2_with fail
                  refine (HRK.out _).mono ?_; rintro e w7 ⟨rfl, hb⟩
                  have HB7 := Lib.hid (HB6.out.trans (hb.mono HB6.out.size))
                  have HXa7 := Lib.hid (HXa6.out.below hb HXa6.out.cells.2.2.2.2.2.2)
                  clear hb
                  clear ca0 ca1 ca2 fa0 fa1 fa2 ba
                  obtain ⟨ca0, ca1, ca2, fa0, fa1, fa2, ba⟩ := HXa7.out.cells
                  go_wp2_with fail
                  refine (HFR.out _).mono ?_; rintro e wf ⟨⟨tv, htv, rfl⟩, hb⟩
                  have HB8 := Lib.hid (HB7.out.trans (hb.mono HB7.out.size))
                  have HXa8 := Lib.hid (HXa7.out.below hb HXa7.out.cells.2.2.2.2.2.2)
                  clear hb
                  clear ca0 ca1 ca2 fa0 fa1 fa2 ba
                  obtain ⟨ca0, ca1, ca2, fa0, fa1, fa2, ba⟩ := HXa8.out.cells
                  go_wp2_with fail
                  refine (HPW.out _).mono ?_; rintro e w9 ⟨rfl, hb⟩
                  have HB9 := Lib.hid (HB8.out.trans (hb.mono HB8.out.size))
                  have HXa9 := Lib.hid (HXa8.out.below hb HXa8.out.cells.2.2.2.2.2.2)
                  clear hb
                  clear ca0 ca1 ca2 fa0 fa1 fa2 ba
                  obtain ⟨ca0, ca1, ca2, fa0, fa1, fa2, ba⟩ := HXa9.out.cells
                  have hal : Below w9.heap.size w9 (w9.alloc (.cells #[.int .i64 (N : Int), .string TS, .string TR] 24)) := (Below.refl _ _).alloc (Nat.le_refl _) _
                  have HB10 := Lib.hid (HB9.out.trans (hal.mono HB9.out.size))
                  have HXa10 := Lib.hid (HXa9.out.below hal HXa9.out.cells.2.2.2.2.2.2)
                  have HXb10 : Hid (SBlk (w9.alloc (.cells #[.int .i64 (N : Int), .string TS, .string TR] 24)) w9.heap.size (N : Int) TS TR) := SBlk.new w9 (N : Int) TS TR
                  clear hal
                  clear ca0 ca1 ca2 fa0 fa1 fa2 ba
                  obtain ⟨ca0, ca1, ca2, fa0, fa1, fa2, ba⟩ := HXa10.out.cells
                  obtain ⟨cb0, cb1, cb2, fb0, fb1, fb2, bb⟩ := HXb10.out.cells
                  go_wp2_with fail
                  refine (HHK.out _).mono ?_; rintro e w11 ⟨rfl, hb⟩
                  have HB11 := Lib.hid (HB10.out.trans (hb.mono HB10.out.size))
                  have HXa11 := Lib.hid (HXa10.out.below hb HXa10.out.cells.2.2.2.2.2.2)
                  have HXb11 := Lib.hid (HXb10.out.below hb HXb10.out.cells.2.2.2.2.2.2)
                  clear hb
                  clear ca0 ca1 ca2 fa0 fa1 fa2 ba cb0 cb1 cb2 fb0 fb1 fb2 bb
                  obtain ⟨cb0, cb1, cb2, fb0, fb1, fb2, bb⟩ := HXb11.out.cells
                  go_wp2_with fail
                  refine (HHH.out _).mono ?_; rintro e w12 ⟨rfl, hb⟩
                  have HB12 := Lib.hid (HB11.out.trans (hb.mono HB11.out.size))
                  have HXa12 := Lib.hid (HXa11.out.below hb HXa11.out.cells.2.2.2.2.2.2)
                  have HXb12 := Lib.hid (HXb11.out.below hb HXb11.out.cells.2.2.2.2.2.2)
                  clear hb
                  clear cb0 cb1 cb2 fb0 fb1 fb2 bb
                  go_wp2_with fail
                  go_ret
                  exact ⟨ret_bool (by simp), HB12.out⟩
              · rw [decide_eq_false hf0] at HFR
                clear HPW
                go_wp2_with fail
                refine (HSV.out _).mono ?_; rintro e w6 ⟨rfl, hb⟩
                have HB6 := Lib.hid (HB5.out.trans (hb.mono HB5.out.size))
                have HXa6 := Lib.hid (HXa5.out.below hb HXa5.out.cells.2.2.2.2.2.2)
                clear hb
                clear ca0 ca1 ca2 fa0 fa1 fa2 ba
                obtain ⟨ca0, ca1, ca2, fa0, fa1, fa2, ba⟩ := HXa6.out.cells
                go_wp2_with fail
                refine (HRK.out _).mono ?_; rintro e w7 ⟨rfl, hb⟩
                have HB7 := Lib.hid (HB6.out.trans (hb.mono HB6.out.size))
                have HXa7 := Lib.hid (HXa6.out.below hb HXa6.out.cells.2.2.2.2.2.2)
                clear hb
                clear ca0 ca1 ca2 fa0 fa1 fa2 ba
                obtain ⟨ca0, ca1, ca2, fa0, fa1, fa2, ba⟩ := HXa7.out.cells
                go_wp2_with fail
                refine (HFR.out _).mono ?_; rintro e wf ⟨⟨tv, htv, rfl⟩, hb⟩
                have HB8 := Lib.hid (HB7.out.trans (hb.mono HB7.out.size))
                have HXa8 := Lib.hid (HXa7.out.below hb HXa7.out.cells.2.2.2.2.2.2)
                clear hb
                clear ca0 ca1 ca2 fa0 fa1 fa2 ba
                go_wp2_with fail
                refine (HFV.out _).mono ?_; rintro e w9 ⟨rfl, hb⟩
                have HB9 := Lib.hid (HB8.out.trans (hb.mono HB8.out.size))
                have HXa9 := Lib.hid (HXa8.out.below hb HXa8.out.cells.2.2.2.2.2.2)
                clear hb
                go_wp2_with fail
                go_ret
                exact ⟨rfl, HB9.out⟩
            · clear HPW
              go_wp2_with fail
              refine (HSV.out _).mono ?_; rintro e w6 ⟨rfl, hb⟩
              have HB6 := Lib.hid (HB5.out.trans (hb.mono HB5.out.size))
              have HXa6 := Lib.hid (HXa5.out.below hb HXa5.out.cells.2.2.2.2.2.2)
              clear hb
              clear ca0 ca1 ca2 fa0 fa1 fa2 ba
              obtain ⟨ca0, ca1, ca2, fa0, fa1, fa2, ba⟩ := HXa6.out.cells
              go_wp2_with fail
              refine (HRK.out _).mono ?_; rintro e w7 ⟨rfl, hb⟩
              have HB7 := Lib.hid (HB6.out.trans (hb.mono HB6.out.size))
              have HXa7 := Lib.hid (HXa6.out.below hb HXa6.out.cells.2.2.2.2.2.2)
              clear hb
              clear ca0 ca1 ca2 fa0 fa1 fa2 ba
              go_wp2_with fail
              refine (HFV.out _).mono ?_; rintro e w8 ⟨rfl, hb⟩
              have HB8 := Lib.hid (HB7.out.trans (hb.mono HB7.out.size))
              have HXa8 := Lib.hid (HXa7.out.below hb HXa7.out.cells.2.2.2.2.2.2)
              clear hb
              go_wp2_with fail
              go_ret
              exact ⟨rfl, HB8.out⟩
          · have h5I : ¬ (m : Int) ≤ 5 := by omega
            clear HPW
            go_wp2_with fail
            refine (HSV.out _).mono ?_; rintro e w6 ⟨rfl, hb⟩
            have HB6 := Lib.hid (HB5.out.trans (hb.mono HB5.out.size))
            have HXa6 := Lib.hid (HXa5.out.below hb HXa5.out.cells.2.2.2.2.2.2)
            clear hb
            clear ca0 ca1 ca2 fa0 fa1 fa2 ba
            obtain ⟨ca0, ca1, ca2, fa0, fa1, fa2, ba⟩ := HXa6.out.cells
            go_wp2_with fail
            refine (HFV.out _).mono ?_; rintro e w7 ⟨rfl, hb⟩
            have HB7 := Lib.hid (HB6.out.trans (hb.mono HB6.out.size))
            have HXa7 := Lib.hid (HXa6.out.below hb HXa6.out.cells.2.2.2.2.2.2)
            clear hb
            clear ca0 ca1 ca2 fa0 fa1 fa2 ba
            go_wp2_with fail
            go_ret
            exact ⟨rfl, HB7.out⟩
    · go_enter Tryd.func4, Tryd.ntmps4
      go_wp2_with fail
      go_ret
      exact ⟨rfl, Below.refl _ _⟩
  · go_enter Tryd.func4, Tryd.ntmps4
    go_wp2_with fail
    go_ret
    exact ⟨rfl, Below.refl _ _⟩
end Go.Proofs.YtjepegkbbbebkaaDoor
