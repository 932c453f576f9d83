/- Formulas in a text, by their places: plainly. No condition. -/
import Derived.Test.YtadgiknnejjplaaDoorFm
namespace Go.Proofs.YtadgiknnejjplaaDoor.Fm
set_option linter.unusedVariables false

def len (φ : T) : Nat := (text φ).length
/-- The variable's number with which a text begins, -1 for none. -/
def varI (s : List UInt8) : Int := match pvar s with | none => -1 | some p => (p.1.val : Int)
/-- The formula that begins at a place. -/
def parseAt (L : List UInt8) (a : Nat) : Option T := (parse L.length (L.drop a)).map fun p => p.1
/-- Where it ends, -1 for none. -/
def endI (L : List UInt8) (a : Nat) : Int := match parseAt L a with | none => -1 | some φ => ((a + len φ : Nat) : Int)

theorem varI_lt (s : List UInt8) : varI s < 4 ∧ -1 ≤ varI s := by
  unfold varI
  split
  · omega
  · rename_i p _; have := p.1.isLt; omega
theorem varI_nil : varI [] = -1 := rfl
theorem varI_cons (c : UInt8) (s : List UInt8) : varI (c :: s) = if c = 97 then 0 else if c = 98 then 1 else if c = 99 then 2 else if c = 100 then 3 else -1 := by
  unfold varI
  simp only [pvar]
  by_cases h1 : c = 97
  · rw [if_pos h1, if_pos h1]; rfl
  rw [if_neg h1, if_neg h1]
  by_cases h2 : c = 98
  · rw [if_pos h2, if_pos h2]; rfl
  rw [if_neg h2, if_neg h2]
  by_cases h3 : c = 99
  · rw [if_pos h3, if_pos h3]; rfl
  rw [if_neg h3, if_neg h3]
  by_cases h4 : c = 100
  · rw [if_pos h4, if_pos h4]; rfl
  rw [if_neg h4, if_neg h4]
theorem pvar_at (L : List UInt8) (a : Nat) : (varI (L.drop a) < 0 ∧ pvar (L.drop a) = none) ∨ ∃ v : Fin 4, varI (L.drop a) = (v.val : Int) ∧ pvar (L.drop a) = some (v, L.drop (a + 1)) := by
  cases h : pvar (L.drop a) with
  | none => exact .inl ⟨by unfold varI; rw [h]; simp, rfl⟩
  | some p =>
    obtain ⟨v, r⟩ := p
    refine .inr ⟨v, by unfold varI; rw [h], ?_⟩
    have h1 := pvar_some h
    have h2 : L.drop (a + 1) = r := by
      rw [← List.drop_drop, h1]; rfl
    rw [h2]
theorem parse_at {n : Nat} {L : List UInt8} {a : Nat} (hn : L.length - a ≤ n) : (parseAt L a = none ∧ parse n (L.drop a) = none) ∨ ∃ φ, parseAt L a = some φ ∧ parse n (L.drop a) = some (φ, L.drop (a + len φ)) := by
  have hf : parse L.length (L.drop a) = parse n (L.drop a) := parse_fuel (by rw [List.length_drop]; omega) (by rw [List.length_drop]; omega)
  unfold parseAt
  rw [hf]
  cases h : parse n (L.drop a) with
  | none => exact .inl ⟨rfl, rfl⟩
  | some p =>
    obtain ⟨φ, r⟩ := p
    refine .inr ⟨φ, rfl, ?_⟩
    have h1 := parse_some n h
    have h2 : L.drop (a + len φ) = r := by
      rw [← List.drop_drop, h1]; simp [len]
    rw [h2]
theorem parseAt_len {L : List UInt8} {a : Nat} {φ : T} (h : parseAt L a = some φ) : a + len φ ≤ L.length ∧ 1 ≤ len φ ∧ L.drop a = text φ ++ L.drop (a + len φ) := by
  rcases parse_at (n := L.length) (L := L) (a := a) (by omega) with ⟨h1, _⟩ | ⟨ψ, h1, h2⟩
  · rw [h1] at h; cases h
  · rw [h1] at h
    obtain rfl := Option.some.inj h
    have h3 := parse_some _ h2
    have h4 := text_pos ψ
    have h5 := congrArg List.length h3
    rw [List.length_drop, List.length_append, List.length_drop] at h5
    refine ⟨?_, h4, h3⟩
    show a + (text ψ).length ≤ _
    unfold len at h5
    omega
theorem endI_none {L : List UInt8} {a : Nat} (h : parseAt L a = none) : endI L a = -1 := by unfold endI; rw [h]
theorem endI_some {L : List UInt8} {a : Nat} {φ : T} (h : parseAt L a = some φ) : endI L a = ((a + len φ : Nat) : Int) := by unfold endI; rw [h]
theorem endI_le (L : List UInt8) (a : Nat) : endI L a ≤ L.length ∧ -1 ≤ endI L a := by
  cases h : parseAt L a with
  | none => rw [endI_none h]; omega
  | some φ =>
    have := parseAt_len h
    rw [endI_some h]; omega
theorem drop_cons {L : List UInt8} {a : Nat} (h : a < L.length) : L.drop a = L[a] :: L.drop (a + 1) := List.drop_eq_getElem_cons h

section
variable {L : List UInt8} {a : Nat}
theorem parseAt_out (h : L.length ≤ a) : parseAt L a = none := by
  unfold parseAt
  rw [List.drop_eq_nil_iff.2 h]
  cases L.length <;> rfl
theorem parseAt_cons {c : UInt8} (h : a < L.length) (hc : L[a] = c) : parseAt L a = (parse (L.length - a) (c :: L.drop (a + 1))).map fun p => p.1 := by
  unfold parseAt
  rw [drop_cons h, hc]
  congr 1
  refine parse_fuel ?_ ?_ <;> (rw [List.length_cons, List.length_drop]; omega)
theorem parseAt_t (h : a < L.length) (hc : L[a] = 116) : parseAt L a = some (.lit true) := by
  rw [parseAt_cons h hc]
  obtain ⟨n, hn⟩ : ∃ n, L.length - a = n + 1 := ⟨L.length - a - 1, by omega⟩
  rw [hn]; rfl
theorem parseAt_f (h : a < L.length) (hc : L[a] = 102) : parseAt L a = some (.lit false) := by
  rw [parseAt_cons h hc]
  obtain ⟨n, hn⟩ : ∃ n, L.length - a = n + 1 := ⟨L.length - a - 1, by omega⟩
  rw [hn]; rfl
theorem parseAt_P (h : a < L.length) (hc : L[a] = 80) : parseAt L a = (pvar (L.drop (a + 1))).map fun p => .set p.1 := by
  rw [parseAt_cons h hc]
  obtain ⟨n, hn⟩ : ∃ n, L.length - a = n + 1 := ⟨L.length - a - 1, by omega⟩
  rw [hn]
  show ((pvar (L.drop (a + 1))).bind _).map _ = _
  cases pvar (L.drop (a + 1)) <;> rfl
theorem parseAt_rel (e : Bool) (h : a < L.length) (hc : L[a] = if e then 69 else 61) : parseAt L a = (pvar (L.drop (a + 1))).bind fun p => (pvar (L.drop (a + 2))).map fun q => .rel e p.1 q.1 := by
  obtain ⟨n, hn⟩ : ∃ n, L.length - a = n + 1 := ⟨L.length - a - 1, by omega⟩
  have key : ((pvar (L.drop (a + 1))).bind fun p => (pvar p.2).bind fun q => some ((T.rel e p.1 q.1, q.2) : T × List UInt8)).map (fun p => p.1) = (pvar (L.drop (a + 1))).bind fun p => (pvar (L.drop (a + 2))).map fun q => .rel e p.1 q.1 := by
    rcases pvar_at L (a + 1) with ⟨_, h1⟩ | ⟨v, _, h1⟩
    · rw [h1]; rfl
    · rw [h1]
      show ((pvar (L.drop (a + 2))).bind _).map _ = (pvar (L.drop (a + 2))).map _
      cases pvar (L.drop (a + 2)) <;> rfl
  rw [parseAt_cons h hc, hn]
  cases e
  · exact key
  · exact key
theorem parseAt_neg (h : a < L.length) (hc : L[a] = 33) : parseAt L a = (parseAt L (a + 1)).map .neg := by
  obtain ⟨n, hn⟩ : ∃ n, L.length - a = n + 1 := ⟨L.length - a - 1, by omega⟩
  rw [parseAt_cons h hc, hn]
  show ((parse n (L.drop (a + 1))).bind _).map _ = _
  rcases parse_at (n := n) (L := L) (a := a + 1) (by omega) with ⟨h1, h2⟩ | ⟨φ, h1, h2⟩ <;> (rw [h1, h2]; rfl)
theorem parseAt_bin (o : Bool) (h : a < L.length) (hc : L[a] = if o then 124 else 38) : parseAt L a = (parseAt L (a + 1)).bind fun f => (parseAt L (a + 1 + len f)).map fun g => .bin o f g := by
  obtain ⟨n, hn⟩ : ∃ n, L.length - a = n + 1 := ⟨L.length - a - 1, by omega⟩
  have key : ((parse n (L.drop (a + 1))).bind fun p => (parse n p.2).bind fun q => some ((T.bin o p.1 q.1, q.2) : T × List UInt8)).map (fun p => p.1) = (parseAt L (a + 1)).bind fun f => (parseAt L (a + 1 + len f)).map fun g => .bin o f g := by
    rcases parse_at (n := n) (L := L) (a := a + 1) (by omega) with ⟨h1, h2⟩ | ⟨φ, h1, h2⟩
    · rw [h1, h2]; rfl
    · rw [h1, h2]
      show ((parse n (L.drop (a + 1 + len φ))).bind _).map _ = (parseAt L (a + 1 + len φ)).map _
      rcases parse_at (n := n) (L := L) (a := a + 1 + len φ) (by omega) with ⟨h3, h4⟩ | ⟨ψ, h3, h4⟩ <;> (rw [h3, h4]; rfl)
  rw [parseAt_cons h hc, hn]
  cases o
  · exact key
  · exact key
theorem parseAt_qu (q : Q) (h : a < L.length) (hc : L[a] = q.byte) : parseAt L a = (pvar (L.drop (a + 1))).bind fun p => (parseAt L (a + 2)).map fun f => .qu q p.1 f := by
  obtain ⟨n, hn⟩ : ∃ n, L.length - a = n + 1 := ⟨L.length - a - 1, by omega⟩
  rw [parseAt_cons h hc, hn, parse_qu]
  rcases pvar_at L (a + 1) with ⟨_, h1⟩ | ⟨v, _, h1⟩
  · rw [h1]; rfl
  · rw [h1]
    show ((parse n (L.drop (a + 2))).bind _).map _ = (parseAt L (a + 2)).map _
    rcases parse_at (n := n) (L := L) (a := a + 2) (by omega) with ⟨h3, h4⟩ | ⟨φ, h3, h4⟩ <;> (rw [h3, h4]; rfl)
theorem parseAt_no (h : a < L.length) (h1 : L[a] ≠ 116) (h2 : L[a] ≠ 102) (h3 : L[a] ≠ 80) (h4 : L[a] ≠ 61) (h5 : L[a] ≠ 69) (h6 : L[a] ≠ 33) (h7 : L[a] ≠ 38) (h8 : L[a] ≠ 124) (h9 : quOf L[a] = none) : parseAt L a = none := by
  obtain ⟨n, hn⟩ : ∃ n, L.length - a = n + 1 := ⟨L.length - a - 1, by omega⟩
  rw [parseAt_cons h rfl, hn]
  simp only [parse, if_neg h1, if_neg h2, if_neg h3, if_neg h4, if_neg h5, if_neg h6, if_neg h7, if_neg h8, h9]
  rfl
end

/-- Where it ends, by its first letter. -/
theorem endI_P {L : List UInt8} {a : Nat} (h : a < L.length) (hc : L[a] = 80) : endI L a = if varI (L.drop (a + 1)) < 0 then -1 else ((a + 2 : Nat) : Int) := by
  unfold endI
  rw [parseAt_P h hc]
  rcases pvar_at L (a + 1) with ⟨h1, h2⟩ | ⟨v, h1, h2⟩
  · rw [if_pos h1, h2]; rfl
  · rw [h2, h1, if_neg (by omega)]; rfl
theorem endI_rel {L : List UInt8} {a : Nat} (e : Bool) (h : a < L.length) (hc : L[a] = if e then 69 else 61) : endI L a = if varI (L.drop (a + 1)) < 0 then -1 else if varI (L.drop (a + 2)) < 0 then -1 else ((a + 3 : Nat) : Int) := by
  unfold endI
  rw [parseAt_rel e h hc]
  rcases pvar_at L (a + 1) with ⟨h1, h2⟩ | ⟨v, h1, h2⟩
  · rw [if_pos h1, h2]; rfl
  · rw [h2, h1, if_neg (by omega)]
    rcases pvar_at L (a + 2) with ⟨h3, h4⟩ | ⟨w, h3, h4⟩
    · rw [if_pos h3, h4]; rfl
    · rw [h4, h3, if_neg (by omega)]; rfl
theorem endI_neg {L : List UInt8} {a : Nat} (h : a < L.length) (hc : L[a] = 33) : endI L a = endI L (a + 1) := by
  unfold endI
  rw [parseAt_neg h hc]
  cases parseAt L (a + 1) with
  | none => rfl
  | some φ => simp [len, text]; omega
theorem endI_bin {L : List UInt8} {a : Nat} (o : Bool) (h : a < L.length) (hc : L[a] = if o then 124 else 38) : endI L a = if endI L (a + 1) < 0 then -1 else endI L (endI L (a + 1)).toNat := by
  cases h1 : parseAt L (a + 1) with
  | none => rw [endI_none h1, if_pos (by omega), endI_none]; rw [parseAt_bin o h hc, h1]; rfl
  | some φ =>
    rw [endI_some h1, if_neg (by omega), Int.toNat_natCast]
    cases h2 : parseAt L (a + 1 + len φ) with
    | none => rw [endI_none h2, endI_none]; rw [parseAt_bin o h hc, h1]; show (parseAt L (a + 1 + len φ)).map _ = _; rw [h2]; rfl
    | some ψ =>
      rw [endI_some h2, endI_some (φ := .bin o φ ψ)]
      · simp [len, text]; omega
      · rw [parseAt_bin o h hc, h1]; show (parseAt L (a + 1 + len φ)).map _ = _; rw [h2]; rfl
theorem endI_qu {L : List UInt8} {a : Nat} (q : Q) (h : a < L.length) (hc : L[a] = q.byte) : endI L a = if varI (L.drop (a + 1)) < 0 then -1 else endI L (a + 2) := by
  rcases pvar_at L (a + 1) with ⟨h1, h2⟩ | ⟨v, h1, h2⟩
  · rw [if_pos h1, endI_none]; rw [parseAt_qu q h hc, h2]; rfl
  · rw [if_neg (by omega)]
    cases h3 : parseAt L (a + 2) with
    | none => rw [endI_none h3, endI_none]; rw [parseAt_qu q h hc, h2]; show (parseAt L (a + 2)).map _ = _; rw [h3]; rfl
    | some φ =>
      rw [endI_some h3, endI_some (φ := .qu q v φ)]
      · simp [len, text]; omega
      · rw [parseAt_qu q h hc, h2]; show (parseAt L (a + 2)).map _ = _; rw [h3]; rfl
/-- A formula's text lies at a place. -/
theorem read_at (L : List UInt8) (hl : L.length ≤ 4000) : read L = if endI L 0 = (L.length : Int) then parseAt L 0 else none := by
  cases h : parseAt L 0 with
  | none =>
    rw [endI_none h, if_neg (by omega)]
    unfold parseAt at h
    unfold read
    rw [if_neg (by omega), List.drop_zero] at *
    cases h2 : parse L.length L with
    | none => rfl
    | some p => rw [h2] at h; cases h
  | some φ =>
    rw [endI_some h, Nat.zero_add]
    have h1 := parseAt_len h
    rw [Nat.zero_add, List.drop_zero] at h1
    by_cases he : len φ = L.length
    · rw [if_pos (by omega)]
      rw [read_iff]
      refine ⟨?_, hl⟩
      have h2 := h1.2.2
      rw [he, List.drop_length, List.append_nil] at h2
      exact h2
    · rw [if_neg (by omega)]
      cases h3 : read L with
      | none => rfl
      | some ψ =>
        obtain ⟨h4, _⟩ := read_iff.1 h3
        have h5 : parseAt L 0 = some ψ := by
          unfold parseAt
          rw [List.drop_zero, h4]
          have := parse_text ψ (text ψ).length [] (Nat.le_refl _)
          rw [List.append_nil] at this
          rw [this]; rfl
        rw [h] at h5
        obtain rfl := Option.some.inj h5
        exact absurd (by rw [h4]; rfl) he
end Go.Proofs.YtadgiknnejjplaaDoor.Fm
