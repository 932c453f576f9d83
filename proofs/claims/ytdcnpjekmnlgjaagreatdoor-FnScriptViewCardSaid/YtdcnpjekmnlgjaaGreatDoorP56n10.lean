/- Contracts of the program's functions and what they compute: part 10. Conditions: those that each theorem states. -/
import Derived.Test.YtdcnpjekmnlgjaaGreatDoorP56n9
namespace Go.Proofs.YtdcnpjekmnlgjaaGreatDoor.Fm
set_option linter.unusedVariables false
/-- How many variables and parts are behind a first letter. -/
def shape (c : UInt8) : Option (Nat × Nat) :=
  if c = 116 then some (0, 0) else if c = 102 then some (0, 0) else if c = 80 then some (1, 0) else if c = 61 then some (2, 0) else if c = 69 then some (2, 0)
  else if c = 33 then some (0, 1) else if c = 38 then some (0, 2) else if c = 124 then some (0, 2) else (quOf c).map fun _ => (1, 1)
/-- The formula of a first letter, variables and parts. -/
def build (c : UInt8) : List (Fin 4) → List T → T
  | [], [] => .lit (c = 116)
  | [v], [] => .set v
  | [v, w], [] => .rel (c = 69) v w
  | [], [f] => .neg f
  | [], [f, g] => .bin (c = 124) f g
  | v :: _, f :: _ => .qu ((quOf c).getD .all) v f
  | _, _ => .lit false
def goP (n : Nat) (c : UInt8) : Nat → List (Fin 4) → List T → List UInt8 → Option (T × List UInt8)
  | 0, vs, ps, s => some (build c vs ps, s)
  | k + 1, vs, ps, s => (parse n s).bind fun p => goP n c k vs (ps ++ [p.1]) p.2
def goV (n : Nat) (c : UInt8) (np : Nat) : Nat → List (Fin 4) → List UInt8 → Option (T × List UInt8)
  | 0, vs, s => goP n c np vs [] s
  | k + 1, vs, s => (pvar s).bind fun p => goV n c np k (vs ++ [p.1]) p.2
theorem shape_qu {c : UInt8} (h1 : c ≠ 116) (h2 : c ≠ 102) (h3 : c ≠ 80) (h4 : c ≠ 61) (h5 : c ≠ 69) (h6 : c ≠ 33) (h7 : c ≠ 38) (h8 : c ≠ 124) : shape c = (quOf c).map fun _ => (1, 1) := by
  unfold shape
  rw [if_neg h1, if_neg h2, if_neg h3, if_neg h4, if_neg h5, if_neg h6, if_neg h7, if_neg h8]
theorem parse_go (n : Nat) (c : UInt8) (s : List UInt8) : parse (n + 1) (c :: s) = (shape c).bind fun k => goV n c k.2 k.1 [] s := by
  by_cases h1 : c = 116
  · subst h1; rfl
  by_cases h2 : c = 102
  · subst h2; rfl
  by_cases h3 : c = 80
  · subst h3; rfl
  by_cases h4 : c = 61
  · subst h4; rfl
  by_cases h5 : c = 69
  · subst h5; rfl
  by_cases h6 : c = 33
  · subst h6; rfl
  by_cases h7 : c = 38
  · subst h7; rfl
  by_cases h8 : c = 124
  · subst h8; rfl
  rw [shape_qu h1 h2 h3 h4 h5 h6 h7 h8]
  cases hq : quOf c with
  | none => simp only [parse, if_neg h1, if_neg h2, if_neg h3, if_neg h4, if_neg h5, if_neg h6, if_neg h7, if_neg h8, hq]; rfl
  | some q =>
    obtain rfl := quOf_some hq
    rw [parse_qu]
    show _ = (pvar s).bind fun p => goV n q.byte 1 0 ([] ++ [p.1]) p.2
    cases pvar s with
    | none => rfl
    | some p =>
      show (parse n p.2).bind _ = goP n q.byte 1 [p.1] [] p.2
      show _ = (parse n p.2).bind fun r => some (build q.byte [p.1] ([] ++ [r.1]), r.2)
      congr 1
      funext r
      show _ = some (T.qu ((quOf q.byte).getD .all) p.1 r.1, r.2)
      rw [quOf_byte]; rfl
/-- Whether a first letter is a quantifier. -/
def isQu (c : UInt8) : Bool := (quOf c).isSome
def orV (vs : List (Fin 4)) : Nat := vs.foldl (fun a v => a ||| 1 <<< v.val) 0
def orF (ps : List T) : Nat := ps.foldl (fun a f => a ||| free f) 0
def orA (a : Nat) (ps : List T) : Nat := ps.foldl (fun a f => a ||| vars f) a
theorem orV_snoc (vs : List (Fin 4)) (v : Fin 4) : orV (vs ++ [v]) = orV vs ||| 1 <<< v.val := by simp [orV, List.foldl_append]
theorem orF_snoc (ps : List T) (f : T) : orF (ps ++ [f]) = orF ps ||| free f := by simp [orF, List.foldl_append]
theorem orA_snoc (a : Nat) (ps : List T) (f : T) : orA a (ps ++ [f]) = orA a ps ||| vars f := by simp [orA, List.foldl_append]
theorem orV_lt (vs : List (Fin 4)) : orV vs < 16 := by
  have h : ∀ (l : List (Fin 4)) (a : Nat), a < 16 → l.foldl (fun a v => a ||| 1 <<< v.val) a < 16 := by
    intro l
    induction l with
    | nil => intro a h; exact h
    | cons v l ih => intro a h; exact ih _ (or_lt h (bit_lt v))
  exact h vs 0 (by decide)
theorem orF_lt (ps : List T) : orF ps < 16 := by
  have h : ∀ (l : List T) (a : Nat), a < 16 → l.foldl (fun a f => a ||| free f) a < 16 := by
    intro l
    induction l with
    | nil => intro a h; exact h
    | cons v l ih => intro a h; exact ih _ (or_lt h (free_lt v))
  exact h ps 0 (by decide)
theorem orA_lt (a : Nat) (ha : a < 16) (ps : List T) : orA a ps < 16 := by
  have h : ∀ (l : List T) (a : Nat), a < 16 → l.foldl (fun a f => a ||| vars f) a < 16 := by
    intro l
    induction l with
    | nil => intro a h; exact h
    | cons v l ih => intro a h; exact ih _ (or_lt h (vars_lt v))
  exact h ps a ha
/-- What a node of a first letter, its variables and parts must hold. -/
theorem build_node {c : UInt8} {vs : List (Fin 4)} {ps : List T} (h : shape c = some (vs.length, ps.length)) :
    (build c vs ps).op = c ∧ (build c vs ps).vs = vs ∧ (build c vs ps).ps = ps ∧ vars (build c vs ps) = orA (orV vs) ps ∧
    free (build c vs ps) = if ps.length = 0 then orV vs else if isQu c then orF ps &&& (15 ^^^ 1 <<< (vs.getD 0 0).val) else orF ps := by
  have z (a : Nat) : 0 ||| a = a := Nat.zero_or a
  by_cases h1 : c = 116
  · subst h1
    have h : some (0, 0) = some (vs.length, ps.length) := h
    simp at h
    obtain ⟨rfl, rfl⟩ : vs = [] ∧ ps = [] := ⟨List.eq_nil_of_length_eq_zero h.1.symm, List.eq_nil_of_length_eq_zero h.2.symm⟩
    exact ⟨rfl, rfl, rfl, rfl, rfl⟩
  by_cases h2 : c = 102
  · subst h2
    have h : some (0, 0) = some (vs.length, ps.length) := h
    simp at h
    obtain ⟨rfl, rfl⟩ : vs = [] ∧ ps = [] := ⟨List.eq_nil_of_length_eq_zero h.1.symm, List.eq_nil_of_length_eq_zero h.2.symm⟩
    exact ⟨rfl, rfl, rfl, rfl, rfl⟩
  by_cases h3 : c = 80
  · subst h3
    have h : some (1, 0) = some (vs.length, ps.length) := h
    simp at h
    obtain rfl := List.eq_nil_of_length_eq_zero h.2.symm
    match vs, h.1 with
    | [v], _ => exact ⟨rfl, rfl, rfl, (z _).symm, (z _).symm⟩
  by_cases h4 : c = 61
  · subst h4
    have h : some (2, 0) = some (vs.length, ps.length) := h
    simp at h
    obtain rfl := List.eq_nil_of_length_eq_zero h.2.symm
    match vs, h.1 with
    | [v, w], _ => exact ⟨rfl, rfl, rfl, by show _ = (0 ||| _) ||| _; rw [z]; rfl, by show _ = (0 ||| _) ||| _; rw [z]; rfl⟩
  by_cases h5 : c = 69
  · subst h5
    have h : some (2, 0) = some (vs.length, ps.length) := h
    simp at h
    obtain rfl := List.eq_nil_of_length_eq_zero h.2.symm
    match vs, h.1 with
    | [v, w], _ => exact ⟨rfl, rfl, rfl, by show _ = (0 ||| _) ||| _; rw [z]; rfl, by show _ = (0 ||| _) ||| _; rw [z]; rfl⟩
  by_cases h6 : c = 33
  · subst h6
    have h : some (0, 1) = some (vs.length, ps.length) := h
    simp at h
    obtain rfl := List.eq_nil_of_length_eq_zero h.1.symm
    match ps, h.2 with
    | [f], _ => exact ⟨rfl, rfl, rfl, (z _).symm, (z _).symm⟩
  by_cases h7 : c = 38
  · subst h7
    have h : some (0, 2) = some (vs.length, ps.length) := h
    simp at h
    obtain rfl := List.eq_nil_of_length_eq_zero h.1.symm
    match ps, h.2 with
    | [f, g], _ => exact ⟨rfl, rfl, rfl, by show _ = (0 ||| _) ||| _; rw [z]; rfl, by show _ = (0 ||| _) ||| _; rw [z]; rfl⟩
  by_cases h8 : c = 124
  · subst h8
    have h : some (0, 2) = some (vs.length, ps.length) := h
    simp at h
    obtain rfl := List.eq_nil_of_length_eq_zero h.1.symm
    match ps, h.2 with
    | [f, g], _ => exact ⟨rfl, rfl, rfl, by show _ = (0 ||| _) ||| _; rw [z]; rfl, by show _ = (0 ||| _) ||| _; rw [z]; rfl⟩
  rw [shape_qu h1 h2 h3 h4 h5 h6 h7 h8] at h
  cases hq : quOf c with
  | none => rw [hq] at h; cases h
  | some q =>
    rw [hq] at h
    obtain rfl := quOf_some hq
    have h : some (1, 1) = some (vs.length, ps.length) := h
    simp at h
    match vs, ps, h.1, h.2 with
    | [v], [f], _, _ =>
      have e : build q.byte [v] [f] = .qu q v f := by
        show T.qu ((quOf q.byte).getD .all) v f = _
        rw [quOf_byte]; rfl
      rw [e]
      have e2 : isQu q.byte = true := by unfold isQu; rw [quOf_byte]; rfl
      rw [e2]
      refine ⟨rfl, rfl, rfl, ?_, ?_⟩
      · show 1 <<< v.val ||| vars f = (0 ||| 1 <<< v.val) ||| vars f
        rw [z]
      · show free f &&& _ = (0 ||| free f) &&& _
        rw [z]
        rfl
theorem shape_le {c : UInt8} {k : Nat × Nat} (h : shape c = some k) : k.1 ≤ 2 ∧ k.2 ≤ 2 := by
  unfold shape at h
  repeat' split at h
  all_goals first | (have := Option.some.inj h; subst this; decide) | (cases hq : quOf c with | none => (rw [hq] at h; cases h) | some q => (rw [hq] at h; have := Option.some.inj h; subst this; exact ⟨Nat.le_succ 1, Nat.le_succ 1⟩))
end Go.Proofs.YtdcnpjekmnlgjaaGreatDoor.Fm
