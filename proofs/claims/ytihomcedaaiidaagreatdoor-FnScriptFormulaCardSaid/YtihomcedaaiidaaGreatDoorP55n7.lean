/- Contracts of the program's functions and what they compute: part 7. Conditions: those that each theorem states. -/
import Derived.Test.YtihomcedaaiidaaGreatDoorP55n6
namespace Go.Proofs.YtihomcedaaiidaaGreatDoor.Fm
set_option linter.unusedVariables false
/-- Quantifiers: all, some, at least two, three, four. -/
inductive Q | all | some | two | three | four
def Q.byte : Q → UInt8
  | .all => 65 | .some => 83 | .two => 50 | .three => 51 | .four => 52
def Q.rank : Q → Nat
  | .all => 1 | .some => 1 | .two => 2 | .three => 3 | .four => 4
/-- Of how many elements the formula must be true. -/
def Q.need (n : Nat) : Q → Nat
  | .all => n | .some => 1 | .two => 2 | .three => 3 | .four => 4
inductive T
  | lit (b : Bool)
  | set (v : Fin 4)
  | rel (e : Bool) (v w : Fin 4)
  | neg (f : T)
  | bin (o : Bool) (f g : T)
  | qu (q : Q) (v : Fin 4) (f : T)
/-- The letter of a variable. -/
def vb (v : Fin 4) : UInt8 := UInt8.ofNat (97 + v.val)
def text : T → List UInt8
  | .lit b => [if b then 116 else 102]
  | .set v => [80, vb v]
  | .rel e v w => [if e then 69 else 61, vb v, vb w]
  | .neg f => 33 :: text f
  | .bin o f g => (if o then 124 else 38) :: (text f ++ text g)
  | .qu q v f => q.byte :: vb v :: text f
def pvar : List UInt8 → Option (Fin 4 × List UInt8)
  | [] => none
  | c :: s => if c = 97 then some (0, s) else if c = 98 then some (1, s) else if c = 99 then some (2, s) else if c = 100 then some (3, s) else none
def quOf (c : UInt8) : Option Q :=
  if c = 65 then some .all else if c = 83 then some .some else if c = 50 then some .two else if c = 51 then some .three else if c = 52 then some .four else none
/-- The formula with which a text begins, and what is behind it. -/
def parse : Nat → List UInt8 → Option (T × List UInt8)
  | 0, _ => none
  | _ + 1, [] => none
  | n + 1, c :: s =>
    if c = 116 then some (.lit true, s)
    else if c = 102 then some (.lit false, s)
    else if c = 80 then (pvar s).bind fun p => some (.set p.1, p.2)
    else if c = 61 then (pvar s).bind fun p => (pvar p.2).bind fun q => some (.rel false p.1 q.1, q.2)
    else if c = 69 then (pvar s).bind fun p => (pvar p.2).bind fun q => some (.rel true p.1 q.1, q.2)
    else if c = 33 then (parse n s).bind fun p => some (.neg p.1, p.2)
    else if c = 38 then (parse n s).bind fun p => (parse n p.2).bind fun q => some (.bin false p.1 q.1, q.2)
    else if c = 124 then (parse n s).bind fun p => (parse n p.2).bind fun q => some (.bin true p.1 q.1, q.2)
    else (quOf c).bind fun k => (pvar s).bind fun p => (parse n p.2).bind fun q => some (.qu k p.1 q.1, q.2)
theorem vb_cases (v : Fin 4) : vb v = 97 ∧ v = 0 ∨ vb v = 98 ∧ v = 1 ∨ vb v = 99 ∧ v = 2 ∨ vb v = 100 ∧ v = 3 := by
  match v with
  | 0 => exact .inl ⟨rfl, rfl⟩
  | 1 => exact .inr (.inl ⟨rfl, rfl⟩)
  | 2 => exact .inr (.inr (.inl ⟨rfl, rfl⟩))
  | 3 => exact .inr (.inr (.inr ⟨rfl, rfl⟩))
theorem pvar_vb (v : Fin 4) (s : List UInt8) : pvar (vb v :: s) = some (v, s) := by
  rcases vb_cases v with ⟨h, rfl⟩ | ⟨h, rfl⟩ | ⟨h, rfl⟩ | ⟨h, rfl⟩ <;> rfl
theorem pvar_some {s r : List UInt8} {v : Fin 4} (h : pvar s = some (v, r)) : s = vb v :: r := by
  cases s with
  | nil => simp [pvar] at h
  | cons c s =>
    simp only [pvar] at h
    by_cases h1 : c = 97
    · rw [if_pos h1] at h; simp at h; obtain ⟨rfl, rfl⟩ := h; rw [h1]; rfl
    rw [if_neg h1] at h
    by_cases h2 : c = 98
    · rw [if_pos h2] at h; simp at h; obtain ⟨rfl, rfl⟩ := h; rw [h2]; rfl
    rw [if_neg h2] at h
    by_cases h3 : c = 99
    · rw [if_pos h3] at h; simp at h; obtain ⟨rfl, rfl⟩ := h; rw [h3]; rfl
    rw [if_neg h3] at h
    by_cases h4 : c = 100
    · rw [if_pos h4] at h; simp at h; obtain ⟨rfl, rfl⟩ := h; rw [h4]; rfl
    rw [if_neg h4] at h
    cases h
theorem quOf_byte (q : Q) : quOf q.byte = some q := by cases q <;> rfl
theorem quOf_some {c : UInt8} {q : Q} (h : quOf c = some q) : c = q.byte := by
  unfold quOf at h
  split at h
  · rename_i e; simp at h; rw [← h]; exact e
  · split at h
    · rename_i e; simp at h; rw [← h]; exact e
    · split at h
      · rename_i e; simp at h; rw [← h]; exact e
      · split at h
        · rename_i e; simp at h; rw [← h]; exact e
        · split at h
          · rename_i e; simp at h; rw [← h]; exact e
          · simp at h
theorem text_pos (φ : T) : 1 ≤ (text φ).length := by cases φ <;> simp [text]
theorem parse_qu (n : Nat) (q : Q) (s : List UInt8) : parse (n + 1) (q.byte :: s) = (pvar s).bind fun p => (parse n p.2).bind fun r => some (.qu q p.1 r.1, r.2) := by
  cases q <;> rfl
/-- A formula's text is read. -/
theorem parse_text : ∀ (φ : T) (n : Nat) (r : List UInt8), (text φ).length ≤ n → parse n (text φ ++ r) = some (φ, r)
  | φ, 0, r, h => absurd (text_pos φ) (by omega)
  | .lit b, n + 1, r, h => by cases b <;> rfl
  | .set v, n + 1, r, h => by
    show (pvar (vb v :: r)).bind _ = _
    rw [pvar_vb]; rfl
  | .rel e v w, n + 1, r, h => by
    cases e
    · show (pvar (vb v :: vb w :: r)).bind _ = _
      rw [pvar_vb]; show (pvar (vb w :: r)).bind _ = _; rw [pvar_vb]; rfl
    · show (pvar (vb v :: vb w :: r)).bind _ = _
      rw [pvar_vb]; show (pvar (vb w :: r)).bind _ = _; rw [pvar_vb]; rfl
  | .neg f, n + 1, r, h => by
    show (parse n (text f ++ r)).bind _ = _
    rw [parse_text f n r (by simp [text] at h; omega)]; rfl
  | .bin o f g, n + 1, r, h => by
    have h1 : (text f).length ≤ n ∧ (text g).length ≤ n := by simp [text] at h; omega
    cases o
    · show (parse n ((text f ++ text g) ++ r)).bind _ = _
      rw [List.append_assoc, parse_text f n _ h1.1]; show (parse n (text g ++ r)).bind _ = _; rw [parse_text g n _ h1.2]; rfl
    · show (parse n ((text f ++ text g) ++ r)).bind _ = _
      rw [List.append_assoc, parse_text f n _ h1.1]; show (parse n (text g ++ r)).bind _ = _; rw [parse_text g n _ h1.2]; rfl
  | .qu q v f, n + 1, r, h => by
    show parse (n + 1) (q.byte :: vb v :: (text f ++ r)) = _
    rw [parse_qu, pvar_vb]; show (parse n (text f ++ r)).bind _ = _
    rw [parse_text f n r (by simp [text] at h; omega)]; rfl
/-- What is read is a formula's text. -/
theorem parse_some : ∀ (n : Nat) {s r : List UInt8} {φ : T}, parse n s = some (φ, r) → s = text φ ++ r := by
  intro n
  induction n with
  | zero => intro s r φ h; simp [parse] at h
  | succ n ih =>
    intro s r φ h
    cases s with
    | nil => simp [parse] at h
    | cons c s =>
      unfold parse at h
      split at h
      · rename_i e; simp at h; obtain ⟨rfl, rfl⟩ := h; rw [e]; rfl
      split at h
      · rename_i e; simp at h; obtain ⟨rfl, rfl⟩ := h; rw [e]; rfl
      split at h
      · rename_i e
        obtain ⟨⟨v, t⟩, h1, h2⟩ := Option.bind_eq_some_iff.1 h
        simp at h2; obtain ⟨rfl, rfl⟩ := h2; rw [e, pvar_some h1]; rfl
      split at h
      · rename_i e
        obtain ⟨⟨v, t⟩, h1, h2⟩ := Option.bind_eq_some_iff.1 h
        obtain ⟨⟨w, t2⟩, h3, h4⟩ := Option.bind_eq_some_iff.1 h2
        simp at h4; obtain ⟨rfl, rfl⟩ := h4; have h3 := pvar_some h3; simp only at h3; rw [e, pvar_some h1, h3]; rfl
      split at h
      · rename_i e
        obtain ⟨⟨v, t⟩, h1, h2⟩ := Option.bind_eq_some_iff.1 h
        obtain ⟨⟨w, t2⟩, h3, h4⟩ := Option.bind_eq_some_iff.1 h2
        simp at h4; obtain ⟨rfl, rfl⟩ := h4; have h3 := pvar_some h3; simp only at h3; rw [e, pvar_some h1, h3]; rfl
      split at h
      · rename_i e
        obtain ⟨⟨f, t⟩, h1, h2⟩ := Option.bind_eq_some_iff.1 h
        simp at h2; obtain ⟨rfl, rfl⟩ := h2; rw [e, ih h1]; rfl
      split at h
      · rename_i e
        obtain ⟨⟨f, t⟩, h1, h2⟩ := Option.bind_eq_some_iff.1 h
        obtain ⟨⟨g, t2⟩, h3, h4⟩ := Option.bind_eq_some_iff.1 h2
        simp at h4; obtain ⟨rfl, rfl⟩ := h4; have h3 := ih h3; simp only at h3; rw [e, ih h1, h3]; simp [text]
      split at h
      · rename_i e
        obtain ⟨⟨f, t⟩, h1, h2⟩ := Option.bind_eq_some_iff.1 h
        obtain ⟨⟨g, t2⟩, h3, h4⟩ := Option.bind_eq_some_iff.1 h2
        simp at h4; obtain ⟨rfl, rfl⟩ := h4; have h3 := ih h3; simp only at h3; rw [e, ih h1, h3]; simp [text]
      obtain ⟨q, h0, h⟩ := Option.bind_eq_some_iff.1 h
      obtain ⟨⟨v, t⟩, h1, h2⟩ := Option.bind_eq_some_iff.1 h
      obtain ⟨⟨f, t2⟩, h3, h4⟩ := Option.bind_eq_some_iff.1 h2
      simp at h4; obtain ⟨rfl, rfl⟩ := h4; have h3 := ih h3; simp only at h3
      rw [quOf_some h0, pvar_some h1, h3]; rfl
theorem parse_lt {n : Nat} {s r : List UInt8} {φ : T} (h : parse n s = some (φ, r)) : r.length < s.length := by
  have h1 := parse_some n h
  have h2 := text_pos φ
  rw [h1, List.length_append]; omega
theorem parse_fuel {n m : Nat} {s : List UInt8} (hn : s.length ≤ n) (hm : s.length ≤ m) : parse n s = parse m s := by
  have key : ∀ {n m : Nat} {p : T × List UInt8}, s.length ≤ m → parse n s = some p → parse m s = some p := by
    rintro n m ⟨φ, r⟩ hm h
    have h1 := parse_some n h
    subst h1
    exact parse_text φ m r (by rw [List.length_append] at hm; omega)
  cases h : parse n s with
  | some p => rw [key hm h]
  | none =>
    cases h2 : parse m s with
    | none => rfl
    | some p => rw [key hn h2] at h; cases h
/-- The formula that a text is. -/
def read (s : List UInt8) : Option T := if 4000 < s.length then none else (parse s.length s).bind fun p => if p.2 = [] then some p.1 else none
theorem read_iff {s : List UInt8} {φ : T} : read s = some φ ↔ s = text φ ∧ s.length ≤ 4000 := by
  unfold read
  split
  · rename_i h
    constructor
    · intro h; cases h
    · rintro ⟨_, h2⟩; omega
  · rename_i h
    constructor
    · intro h1
      obtain ⟨⟨ψ, r⟩, h2, h3⟩ := Option.bind_eq_some_iff.1 h1
      have h4 := parse_some _ h2
      by_cases hr : r = []
      · subst hr
        simp at h3
        subst h3
        exact ⟨by simpa using h4, by omega⟩
      · simp [hr] at h3
    · rintro ⟨rfl, h2⟩
      have := parse_text φ (text φ).length [] (Nat.le_refl _)
      rw [List.append_nil] at this
      rw [this]; rfl
/-- The free variables, as bits. -/
def free : T → Nat
  | .lit _ => 0
  | .set v => 1 <<< v.val
  | .rel _ v w => 1 <<< v.val ||| 1 <<< w.val
  | .neg f => free f
  | .bin _ f g => free f ||| free g
  | .qu _ v f => free f &&& (15 ^^^ 1 <<< v.val)
/-- All variables, as bits. -/
def vars : T → Nat
  | .lit _ => 0
  | .set v => 1 <<< v.val
  | .rel _ v w => 1 <<< v.val ||| 1 <<< w.val
  | .neg f => vars f
  | .bin _ f g => vars f ||| vars g
  | .qu _ v f => 1 <<< v.val ||| vars f
def rank : T → Nat
  | .lit _ => 0
  | .set _ => 0
  | .rel _ _ _ => 0
  | .neg f => rank f
  | .bin _ f g => max (rank f) (rank g)
  | .qu q _ f => rank f + q.rank
theorem bit_lt (v : Fin 4) : 1 <<< v.val < 16 := by revert v; decide
theorem or_lt {a b : Nat} (ha : a < 16) (hb : b < 16) : a ||| b < 16 := Nat.or_lt_two_pow (n := 4) ha hb
theorem free_lt : ∀ φ : T, free φ < 16
  | .lit _ => (by decide : 0 < 16)
  | .set v => bit_lt v
  | .rel _ v w => or_lt (bit_lt v) (bit_lt w)
  | .neg f => free_lt f
  | .bin _ f g => or_lt (free_lt f) (free_lt g)
  | .qu _ v f => Nat.lt_of_le_of_lt Nat.and_le_left (free_lt f)
theorem vars_lt : ∀ φ : T, vars φ < 16
  | .lit _ => (by decide : 0 < 16)
  | .set v => bit_lt v
  | .rel _ v w => or_lt (bit_lt v) (bit_lt w)
  | .neg f => vars_lt f
  | .bin _ f g => or_lt (vars_lt f) (vars_lt g)
  | .qu _ v f => or_lt (bit_lt v) (vars_lt f)
theorem bit_has (v u : Fin 4) : (1 <<< v.val).testBit u.val = decide (v = u) := by revert v u; decide
theorem has_rem (s : Nat) (hs : s < 16) (v u : Fin 4) : (s &&& (15 ^^^ 1 <<< v.val)).testBit u.val = (s.testBit u.val && decide (v ≠ u)) := by
  have h : ∀ (s : Fin 16) (v u : Fin 4), (s.val &&& (15 ^^^ 1 <<< v.val)).testBit u.val = (s.val.testBit u.val && decide (v ≠ u)) := by decide
  exact h ⟨s, hs⟩ v u
/-- Elements for the variables. -/
abbrev Env := Fin 4 → Nat
def upd (e : Env) (v : Fin 4) (x : Nat) : Env := fun u => if u = v then x else e u
/-- How many of the first numbers there are. -/
def cnt (p : Nat → Bool) : Nat → Nat
  | 0 => 0
  | n + 1 => cnt p n + (if p n then 1 else 0)
theorem cnt_congr {p q : Nat → Bool} : ∀ {n : Nat}, (∀ x, x < n → p x = q x) → cnt p n = cnt q n
  | 0, _ => rfl
  | n + 1, h => by unfold cnt; rw [cnt_congr (fun x hx => h x (by omega)), h n (by omega)]
/-- When a formula is true. -/
def holds (a : Gs.St) : T → Env → Bool
  | .lit b, _ => b
  | .set v, e => a.s (e v)
  | .rel true v w, e => a.r (e v) (e w)
  | .rel false v w, e => decide (e v = e w)
  | .neg f, e => !holds a f e
  | .bin true f g, e => holds a f e || holds a g e
  | .bin false f g, e => holds a f e && holds a g e
  | .qu q v f, e => decide (q.need a.n ≤ cnt (fun x => holds a f (upd e v x)) a.n)
/-- It is so by its free variables alone. -/
theorem holds_congr (a : Gs.St) : ∀ (φ : T) {e e' : Env}, (∀ u : Fin 4, (free φ).testBit u.val = true → e u = e' u) → holds a φ e = holds a φ e'
  | .lit _, e, e', h => rfl
  | .set v, e, e', h => by
    have := h v (by show (1 <<< v.val).testBit v.val = true; rw [bit_has]; simp)
    simp only [holds, this]
  | .rel b v w, e, e', h => by
    have h1 := h v (by show (1 <<< v.val ||| 1 <<< w.val).testBit v.val = true; rw [Nat.testBit_or, bit_has, bit_has]; simp)
    have h2 := h w (by show (1 <<< v.val ||| 1 <<< w.val).testBit w.val = true; rw [Nat.testBit_or, bit_has, bit_has]; simp)
    cases b <;> simp only [holds, h1, h2]
  | .neg f, e, e', h => by simp only [holds]; rw [holds_congr a f h]
  | .bin o f g, e, e', h => by
    have h1 := holds_congr a f (e := e) (e' := e') (fun u hu => h u (by show (free f ||| free g).testBit u.val = true; rw [Nat.testBit_or, hu]; rfl))
    have h2 := holds_congr a g (e := e) (e' := e') (fun u hu => h u (by show (free f ||| free g).testBit u.val = true; rw [Nat.testBit_or, hu]; simp))
    cases o <;> simp only [holds, h1, h2]
  | .qu q v f, e, e', h => by
    simp only [holds]
    rw [cnt_congr (q := fun x => holds a f (upd e' v x)) (fun x _ => holds_congr a f (fun u hu => ?_))]
    unfold upd
    split
    · rfl
    · rename_i hne
      refine h u ?_
      show (free f &&& (15 ^^^ 1 <<< v.val)).testBit u.val = true
      rw [has_rem _ (free_lt f), hu]
      simp
      exact fun e => hne e.symm
end Go.Proofs.YtihomcedaaiidaaGreatDoor.Fm
namespace Go.Proofs.YtihomcedaaiidaaGreatDoor.Fm
set_option linter.unusedVariables false
/-- Which variable stands in place of each one. -/
abbrev M := Fin 4 → Fin 4
def taken (s : Nat) (m : M) (v w : Fin 4) : Bool :=
  (s.testBit 0 && decide ((0 : Fin 4) ≠ v) && decide (m 0 = w)) || (s.testBit 1 && decide ((1 : Fin 4) ≠ v) && decide (m 1 = w)) || (s.testBit 2 && decide ((2 : Fin 4) ≠ v) && decide (m 2 = w)) || (s.testBit 3 && decide ((3 : Fin 4) ≠ v) && decide (m 3 = w))
theorem taken_iff {s : Nat} {m : M} {v w : Fin 4} : taken s m v w = true ↔ ∃ u : Fin 4, s.testBit u.val = true ∧ u ≠ v ∧ m u = w := by
  unfold taken
  simp only [Bool.or_eq_true, Bool.and_eq_true, decide_eq_true_eq]
  constructor
  · rintro (((⟨⟨h1, h2⟩, h3⟩ | ⟨⟨h1, h2⟩, h3⟩) | ⟨⟨h1, h2⟩, h3⟩) | ⟨⟨h1, h2⟩, h3⟩)
    · exact ⟨0, h1, h2, h3⟩
    · exact ⟨1, h1, h2, h3⟩
    · exact ⟨2, h1, h2, h3⟩
    · exact ⟨3, h1, h2, h3⟩
  · rintro ⟨u, h1, h2, h3⟩
    match u with
    | 0 => exact .inl (.inl (.inl ⟨⟨h1, h2⟩, h3⟩))
    | 1 => exact .inl (.inl (.inr ⟨⟨h1, h2⟩, h3⟩))
    | 2 => exact .inl (.inr ⟨⟨h1, h2⟩, h3⟩)
    | 3 => exact .inr ⟨⟨h1, h2⟩, h3⟩
/-- The variable that a quantifier binds. -/
def fresh (v : Fin 4) (s : Nat) (m : M) : Option (Fin 4) :=
  if taken s m v v then
    if taken s m v 0 then if taken s m v 1 then if taken s m v 2 then if taken s m v 3 then none else some 3 else some 2 else some 1 else some 0
  else some v
def fput (m : M) (v u : Fin 4) : M := fun x => if x = v then u else m x
/-- Other variables in place of the free ones. -/
def put : T → M → Option T
  | .lit b, _ => some (.lit b)
  | .set v, m => some (.set (m v))
  | .rel e v w, m => some (.rel e (m v) (m w))
  | .neg f, m => (put f m).map .neg
  | .bin o f g, m => (put f m).bind fun a => (put g m).map fun b => .bin o a b
  | .qu q v f, m => (fresh v (free f) m).bind fun u => (put f (fput m v u)).map (.qu q u)
/-- And views in place of atoms. -/
def putV (ps pr : T) : T → M → Option T
  | .lit b, _ => some (.lit b)
  | .set v, m => put ps (fput id 0 (m v))
  | .rel false v w, m => some (.rel false (m v) (m w))
  | .rel true v w, m => put pr (fput (fput id 1 (m w)) 0 (m v))
  | .neg f, m => (putV ps pr f m).map .neg
  | .bin o f g, m => (putV ps pr f m).bind fun a => (putV ps pr g m).map fun b => .bin o a b
  | .qu q v f, m => (fresh v (free f) m).bind fun u => (putV ps pr f (fput m v u)).map (.qu q u)
theorem text_put : ∀ (φ : T) {m : M} {ψ : T}, put φ m = some ψ → (text ψ).length = (text φ).length
  | .lit _, _, _, h => by simp [put] at h; subst h; rfl
  | .set v, m, _, h => by simp [put] at h; subst h; rfl
  | .rel e v w, m, _, h => by simp [put] at h; subst h; rfl
  | .neg f, m, ψ, h => by
    simp only [put] at h
    obtain ⟨a, h1, rfl⟩ := Option.map_eq_some_iff.1 h
    simp [text, text_put f h1]
  | .bin o f g, m, ψ, h => by
    simp only [put] at h
    obtain ⟨a, h1, h2⟩ := Option.bind_eq_some_iff.1 h
    obtain ⟨b, h3, rfl⟩ := Option.map_eq_some_iff.1 h2
    simp [text, text_put f h1, text_put g h3]
  | .qu q v f, m, ψ, h => by
    simp only [put] at h
    obtain ⟨u, h1, h2⟩ := Option.bind_eq_some_iff.1 h
    obtain ⟨b, h3, rfl⟩ := Option.map_eq_some_iff.1 h2
    simp [text, text_put f h3]
theorem text_putV {ps pr : T} (h1 : (text ps).length ≤ 4000) (h2 : (text pr).length ≤ 4000) : ∀ (φ : T) {m : M} {ψ : T}, putV ps pr φ m = some ψ → (text ψ).length ≤ (text φ).length * 4000
  | .lit _, _, _, h => by simp [putV] at h; subst h; simp [text]
  | .set v, m, _, h => by simp only [putV] at h; rw [text_put ps h]; simp [text]; omega
  | .rel false v w, m, _, h => by simp [putV] at h; subst h; simp [text]
  | .rel true v w, m, _, h => by simp only [putV] at h; rw [text_put pr h]; simp [text]; omega
  | .neg f, m, ψ, h => by
    simp only [putV] at h
    obtain ⟨a, h3, rfl⟩ := Option.map_eq_some_iff.1 h
    have := text_putV h1 h2 f h3
    simp [text]; omega
  | .bin o f g, m, ψ, h => by
    simp only [putV] at h
    obtain ⟨a, h3, h4⟩ := Option.bind_eq_some_iff.1 h
    obtain ⟨b, h5, rfl⟩ := Option.map_eq_some_iff.1 h4
    have := text_putV h1 h2 f h3
    have := text_putV h1 h2 g h5
    simp [text]; omega
  | .qu q v f, m, ψ, h => by
    simp only [putV] at h
    obtain ⟨u, h3, h4⟩ := Option.bind_eq_some_iff.1 h
    obtain ⟨b, h5, rfl⟩ := Option.map_eq_some_iff.1 h4
    have := text_putV h1 h2 f h5
    simp [text]; omega
end Go.Proofs.YtihomcedaaiidaaGreatDoor.Fm
namespace Go.Proofs.YtihomcedaaiidaaGreatDoor.Fm
set_option linter.unusedVariables false
def len (φ : T) : Nat := (text φ).length
/-- The variable's number with which a text begins, -1 for none. -/
def varI (s : List UInt8) : Int := match pvar s with | none => -1 | some p => (p.1.val : Int)
/-- The formula that begins at a place. -/
def parseAt (L : List UInt8) (a : Nat) : Option T := (parse L.length (L.drop a)).map fun p => p.1
/-- Where it ends, -1 for none. -/
def endI (L : List UInt8) (a : Nat) : Int := match parseAt L a with | none => -1 | some φ => ((a + len φ : Nat) : Int)
theorem varI_cons (c : UInt8) (s : List UInt8) : varI (c :: s) = if c = 97 then 0 else if c = 98 then 1 else if c = 99 then 2 else if c = 100 then 3 else -1 := by
  unfold varI
  simp only [pvar]
  by_cases h1 : c = 97
  · rw [if_pos h1, if_pos h1]; rfl
  rw [if_neg h1, if_neg h1]
  by_cases h2 : c = 98
  · rw [if_pos h2, if_pos h2]; rfl
  rw [if_neg h2, if_neg h2]
  by_cases h3 : c = 99
  · rw [if_pos h3, if_pos h3]; rfl
  rw [if_neg h3, if_neg h3]
  by_cases h4 : c = 100
  · rw [if_pos h4, if_pos h4]; rfl
  rw [if_neg h4, if_neg h4]
theorem pvar_at (L : List UInt8) (a : Nat) : (varI (L.drop a) < 0 ∧ pvar (L.drop a) = none) ∨ ∃ v : Fin 4, varI (L.drop a) = (v.val : Int) ∧ pvar (L.drop a) = some (v, L.drop (a + 1)) := by
  cases h : pvar (L.drop a) with
  | none => exact .inl ⟨by unfold varI; rw [h]; simp, rfl⟩
  | some p =>
    obtain ⟨v, r⟩ := p
    refine .inr ⟨v, by unfold varI; rw [h], ?_⟩
    have h1 := pvar_some h
    have h2 : L.drop (a + 1) = r := by
      rw [← List.drop_drop, h1]; rfl
    rw [h2]
theorem parse_at {n : Nat} {L : List UInt8} {a : Nat} (hn : L.length - a ≤ n) : (parseAt L a = none ∧ parse n (L.drop a) = none) ∨ ∃ φ, parseAt L a = some φ ∧ parse n (L.drop a) = some (φ, L.drop (a + len φ)) := by
  have hf : parse L.length (L.drop a) = parse n (L.drop a) := parse_fuel (by rw [List.length_drop]; omega) (by rw [List.length_drop]; omega)
  unfold parseAt
  rw [hf]
  cases h : parse n (L.drop a) with
  | none => exact .inl ⟨rfl, rfl⟩
  | some p =>
    obtain ⟨φ, r⟩ := p
    refine .inr ⟨φ, rfl, ?_⟩
    have h1 := parse_some n h
    have h2 : L.drop (a + len φ) = r := by
      rw [← List.drop_drop, h1]; simp [len]
    rw [h2]
theorem parseAt_len {L : List UInt8} {a : Nat} {φ : T} (h : parseAt L a = some φ) : a + len φ ≤ L.length ∧ 1 ≤ len φ ∧ L.drop a = text φ ++ L.drop (a + len φ) := by
  rcases parse_at (n := L.length) (L := L) (a := a) (by omega) with ⟨h1, _⟩ | ⟨ψ, h1, h2⟩
  · rw [h1] at h; cases h
  · rw [h1] at h
    obtain rfl := Option.some.inj h
    have h3 := parse_some _ h2
    have h4 := text_pos ψ
    have h5 := congrArg List.length h3
    rw [List.length_drop, List.length_append, List.length_drop] at h5
    refine ⟨?_, h4, h3⟩
    show a + (text ψ).length ≤ _
    unfold len at h5
    omega
theorem endI_none {L : List UInt8} {a : Nat} (h : parseAt L a = none) : endI L a = -1 := by unfold endI; rw [h]
theorem endI_some {L : List UInt8} {a : Nat} {φ : T} (h : parseAt L a = some φ) : endI L a = ((a + len φ : Nat) : Int) := by unfold endI; rw [h]
theorem endI_le (L : List UInt8) (a : Nat) : endI L a ≤ L.length ∧ -1 ≤ endI L a := by
  cases h : parseAt L a with
  | none => rw [endI_none h]; omega
  | some φ =>
    have := parseAt_len h
    rw [endI_some h]; omega
theorem drop_cons {L : List UInt8} {a : Nat} (h : a < L.length) : L.drop a = L[a] :: L.drop (a + 1) := List.drop_eq_getElem_cons h
section
variable {L : List UInt8} {a : Nat}
theorem parseAt_out (h : L.length ≤ a) : parseAt L a = none := by
  unfold parseAt
  rw [List.drop_eq_nil_iff.2 h]
  cases L.length <;> rfl
theorem parseAt_cons {c : UInt8} (h : a < L.length) (hc : L[a] = c) : parseAt L a = (parse (L.length - a) (c :: L.drop (a + 1))).map fun p => p.1 := by
  unfold parseAt
  rw [drop_cons h, hc]
  congr 1
  refine parse_fuel ?_ ?_ <;> (rw [List.length_cons, List.length_drop]; omega)
theorem parseAt_t (h : a < L.length) (hc : L[a] = 116) : parseAt L a = some (.lit true) := by
  rw [parseAt_cons h hc]
  obtain ⟨n, hn⟩ : ∃ n, L.length - a = n + 1 := ⟨L.length - a - 1, by omega⟩
  rw [hn]; rfl
theorem parseAt_f (h : a < L.length) (hc : L[a] = 102) : parseAt L a = some (.lit false) := by
  rw [parseAt_cons h hc]
  obtain ⟨n, hn⟩ : ∃ n, L.length - a = n + 1 := ⟨L.length - a - 1, by omega⟩
  rw [hn]; rfl
theorem parseAt_P (h : a < L.length) (hc : L[a] = 80) : parseAt L a = (pvar (L.drop (a + 1))).map fun p => .set p.1 := by
  rw [parseAt_cons h hc]
  obtain ⟨n, hn⟩ : ∃ n, L.length - a = n + 1 := ⟨L.length - a - 1, by omega⟩
  rw [hn]
  show ((pvar (L.drop (a + 1))).bind _).map _ = _
  cases pvar (L.drop (a + 1)) <;> rfl
theorem parseAt_rel (e : Bool) (h : a < L.length) (hc : L[a] = if e then 69 else 61) : parseAt L a = (pvar (L.drop (a + 1))).bind fun p => (pvar (L.drop (a + 2))).map fun q => .rel e p.1 q.1 := by
  obtain ⟨n, hn⟩ : ∃ n, L.length - a = n + 1 := ⟨L.length - a - 1, by omega⟩
  have key : ((pvar (L.drop (a + 1))).bind fun p => (pvar p.2).bind fun q => some ((T.rel e p.1 q.1, q.2) : T × List UInt8)).map (fun p => p.1) = (pvar (L.drop (a + 1))).bind fun p => (pvar (L.drop (a + 2))).map fun q => .rel e p.1 q.1 := by
    rcases pvar_at L (a + 1) with ⟨_, h1⟩ | ⟨v, _, h1⟩
    · rw [h1]; rfl
    · rw [h1]
      show ((pvar (L.drop (a + 2))).bind _).map _ = (pvar (L.drop (a + 2))).map _
      cases pvar (L.drop (a + 2)) <;> rfl
  rw [parseAt_cons h hc, hn]
  cases e
  · exact key
  · exact key
theorem parseAt_neg (h : a < L.length) (hc : L[a] = 33) : parseAt L a = (parseAt L (a + 1)).map .neg := by
  obtain ⟨n, hn⟩ : ∃ n, L.length - a = n + 1 := ⟨L.length - a - 1, by omega⟩
  rw [parseAt_cons h hc, hn]
  show ((parse n (L.drop (a + 1))).bind _).map _ = _
  rcases parse_at (n := n) (L := L) (a := a + 1) (by omega) with ⟨h1, h2⟩ | ⟨φ, h1, h2⟩ <;> (rw [h1, h2]; rfl)
theorem parseAt_bin (o : Bool) (h : a < L.length) (hc : L[a] = if o then 124 else 38) : parseAt L a = (parseAt L (a + 1)).bind fun f => (parseAt L (a + 1 + len f)).map fun g => .bin o f g := by
  obtain ⟨n, hn⟩ : ∃ n, L.length - a = n + 1 := ⟨L.length - a - 1, by omega⟩
  have key : ((parse n (L.drop (a + 1))).bind fun p => (parse n p.2).bind fun q => some ((T.bin o p.1 q.1, q.2) : T × List UInt8)).map (fun p => p.1) = (parseAt L (a + 1)).bind fun f => (parseAt L (a + 1 + len f)).map fun g => .bin o f g := by
    rcases parse_at (n := n) (L := L) (a := a + 1) (by omega) with ⟨h1, h2⟩ | ⟨φ, h1, h2⟩
    · rw [h1, h2]; rfl
    · rw [h1, h2]
      show ((parse n (L.drop (a + 1 + len φ))).bind _).map _ = (parseAt L (a + 1 + len φ)).map _
      rcases parse_at (n := n) (L := L) (a := a + 1 + len φ) (by omega) with ⟨h3, h4⟩ | ⟨ψ, h3, h4⟩ <;> (rw [h3, h4]; rfl)
  rw [parseAt_cons h hc, hn]
  cases o
  · exact key
  · exact key
theorem parseAt_qu (q : Q) (h : a < L.length) (hc : L[a] = q.byte) : parseAt L a = (pvar (L.drop (a + 1))).bind fun p => (parseAt L (a + 2)).map fun f => .qu q p.1 f := by
  obtain ⟨n, hn⟩ : ∃ n, L.length - a = n + 1 := ⟨L.length - a - 1, by omega⟩
  rw [parseAt_cons h hc, hn, parse_qu]
  rcases pvar_at L (a + 1) with ⟨_, h1⟩ | ⟨v, _, h1⟩
  · rw [h1]; rfl
  · rw [h1]
    show ((parse n (L.drop (a + 2))).bind _).map _ = (parseAt L (a + 2)).map _
    rcases parse_at (n := n) (L := L) (a := a + 2) (by omega) with ⟨h3, h4⟩ | ⟨φ, h3, h4⟩ <;> (rw [h3, h4]; rfl)
theorem parseAt_no (h : a < L.length) (h1 : L[a] ≠ 116) (h2 : L[a] ≠ 102) (h3 : L[a] ≠ 80) (h4 : L[a] ≠ 61) (h5 : L[a] ≠ 69) (h6 : L[a] ≠ 33) (h7 : L[a] ≠ 38) (h8 : L[a] ≠ 124) (h9 : quOf L[a] = none) : parseAt L a = none := by
  obtain ⟨n, hn⟩ : ∃ n, L.length - a = n + 1 := ⟨L.length - a - 1, by omega⟩
  rw [parseAt_cons h rfl, hn]
  simp only [parse, if_neg h1, if_neg h2, if_neg h3, if_neg h4, if_neg h5, if_neg h6, if_neg h7, if_neg h8, h9]
  rfl
end
/-- Where it ends, by its first letter. -/
theorem endI_P {L : List UInt8} {a : Nat} (h : a < L.length) (hc : L[a] = 80) : endI L a = if varI (L.drop (a + 1)) < 0 then -1 else ((a + 2 : Nat) : Int) := by
  unfold endI
  rw [parseAt_P h hc]
  rcases pvar_at L (a + 1) with ⟨h1, h2⟩ | ⟨v, h1, h2⟩
  · rw [if_pos h1, h2]; rfl
  · rw [h2, h1, if_neg (by omega)]; rfl
theorem endI_rel {L : List UInt8} {a : Nat} (e : Bool) (h : a < L.length) (hc : L[a] = if e then 69 else 61) : endI L a = if varI (L.drop (a + 1)) < 0 then -1 else if varI (L.drop (a + 2)) < 0 then -1 else ((a + 3 : Nat) : Int) := by
  unfold endI
  rw [parseAt_rel e h hc]
  rcases pvar_at L (a + 1) with ⟨h1, h2⟩ | ⟨v, h1, h2⟩
  · rw [if_pos h1, h2]; rfl
  · rw [h2, h1, if_neg (by omega)]
    rcases pvar_at L (a + 2) with ⟨h3, h4⟩ | ⟨w, h3, h4⟩
    · rw [if_pos h3, h4]; rfl
    · rw [h4, h3, if_neg (by omega)]; rfl
theorem endI_neg {L : List UInt8} {a : Nat} (h : a < L.length) (hc : L[a] = 33) : endI L a = endI L (a + 1) := by
  unfold endI
  rw [parseAt_neg h hc]
  cases parseAt L (a + 1) with
  | none => rfl
  | some φ => simp [len, text]; omega
theorem endI_bin {L : List UInt8} {a : Nat} (o : Bool) (h : a < L.length) (hc : L[a] = if o then 124 else 38) : endI L a = if endI L (a + 1) < 0 then -1 else endI L (endI L (a + 1)).toNat := by
  cases h1 : parseAt L (a + 1) with
  | none => rw [endI_none h1, if_pos (by omega), endI_none]; rw [parseAt_bin o h hc, h1]; rfl
  | some φ =>
    rw [endI_some h1, if_neg (by omega), Int.toNat_natCast]
    cases h2 : parseAt L (a + 1 + len φ) with
    | none => rw [endI_none h2, endI_none]; rw [parseAt_bin o h hc, h1]; show (parseAt L (a + 1 + len φ)).map _ = _; rw [h2]; rfl
    | some ψ =>
      rw [endI_some h2, endI_some (φ := .bin o φ ψ)]
      · simp [len, text]; omega
      · rw [parseAt_bin o h hc, h1]; show (parseAt L (a + 1 + len φ)).map _ = _; rw [h2]; rfl
theorem endI_qu {L : List UInt8} {a : Nat} (q : Q) (h : a < L.length) (hc : L[a] = q.byte) : endI L a = if varI (L.drop (a + 1)) < 0 then -1 else endI L (a + 2) := by
  rcases pvar_at L (a + 1) with ⟨h1, h2⟩ | ⟨v, h1, h2⟩
  · rw [if_pos h1, endI_none]; rw [parseAt_qu q h hc, h2]; rfl
  · rw [if_neg (by omega)]
    cases h3 : parseAt L (a + 2) with
    | none => rw [endI_none h3, endI_none]; rw [parseAt_qu q h hc, h2]; show (parseAt L (a + 2)).map _ = _; rw [h3]; rfl
    | some φ =>
      rw [endI_some h3, endI_some (φ := .qu q v φ)]
      · simp [len, text]; omega
      · rw [parseAt_qu q h hc, h2]; show (parseAt L (a + 2)).map _ = _; rw [h3]; rfl
/-- A formula's text lies at a place. -/
theorem read_at (L : List UInt8) (hl : L.length ≤ 4000) : read L = if endI L 0 = (L.length : Int) then parseAt L 0 else none := by
  cases h : parseAt L 0 with
  | none =>
    rw [endI_none h, if_neg (by omega)]
    unfold parseAt at h
    unfold read
    rw [if_neg (by omega), List.drop_zero] at *
    cases h2 : parse L.length L with
    | none => rfl
    | some p => rw [h2] at h; cases h
  | some φ =>
    rw [endI_some h, Nat.zero_add]
    have h1 := parseAt_len h
    rw [Nat.zero_add, List.drop_zero] at h1
    by_cases he : len φ = L.length
    · rw [if_pos (by omega)]
      rw [read_iff]
      refine ⟨?_, hl⟩
      have h2 := h1.2.2
      rw [he, List.drop_length, List.append_nil] at h2
      exact h2
    · rw [if_neg (by omega)]
      cases h3 : read L with
      | none => rfl
      | some ψ =>
        obtain ⟨h4, _⟩ := read_iff.1 h3
        have h5 : parseAt L 0 = some ψ := by
          unfold parseAt
          rw [List.drop_zero, h4]
          have := parse_text ψ (text ψ).length [] (Nat.le_refl _)
          rw [List.append_nil] at this
          rw [this]; rfl
        rw [h] at h5
        obtain rfl := Option.some.inj h5
        exact absurd (by rw [h4]; rfl) he
end Go.Proofs.YtihomcedaaiidaaGreatDoor.Fm
namespace Go.Proofs.YtihomcedaaiidaaGreatDoor.Fm
set_option linter.unusedVariables false
theorem fresh_id (v : Fin 4) (s : Nat) : fresh v s id = some v := by
  unfold fresh
  have : taken s id v v = false := by
    rw [← Bool.not_eq_true, taken_iff]
    rintro ⟨u, _, h2, h3⟩
    exact h2 h3
  rw [this]; rfl
theorem fput_id (v : Fin 4) : fput id v v = id := by
  funext x
  unfold fput
  split
  · rename_i h; exact h.symm
  · rfl
/-- The elements of the first variables, none for the others. -/
def env1 (x : Nat) : Env := fun u => if u = 0 then x else 0
def env2 (x y : Nat) : Env := fun u => if u = 0 then x else if u = 1 then y else 0
/-- The structure that two formulas define. -/
def view (a : Gs.St) (ps pr : T) : Gs.St := ⟨a.n, fun x => holds a ps (env1 x), fun x y => holds a pr (env2 x y)⟩
end Go.Proofs.YtihomcedaaiidaaGreatDoor.Fm
