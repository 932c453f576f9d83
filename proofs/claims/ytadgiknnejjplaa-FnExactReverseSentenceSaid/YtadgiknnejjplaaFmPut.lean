/- Variables put in place of others, and views in place of atoms, plainly. No condition. -/
import Derived.Test.YtadgiknnejjplaaFm
namespace Go.Proofs.Ytadgiknnejjplaa.Fm
set_option linter.unusedVariables false

/-- Which variable stands in place of each one. -/
abbrev M := Fin 4 → Fin 4
def taken (s : Nat) (m : M) (v w : Fin 4) : Bool :=
  (s.testBit 0 && decide ((0 : Fin 4) ≠ v) && decide (m 0 = w)) || (s.testBit 1 && decide ((1 : Fin 4) ≠ v) && decide (m 1 = w)) || (s.testBit 2 && decide ((2 : Fin 4) ≠ v) && decide (m 2 = w)) || (s.testBit 3 && decide ((3 : Fin 4) ≠ v) && decide (m 3 = w))
theorem taken_iff {s : Nat} {m : M} {v w : Fin 4} : taken s m v w = true ↔ ∃ u : Fin 4, s.testBit u.val = true ∧ u ≠ v ∧ m u = w := by
  unfold taken
  simp only [Bool.or_eq_true, Bool.and_eq_true, decide_eq_true_eq]
  constructor
  · rintro (((⟨⟨h1, h2⟩, h3⟩ | ⟨⟨h1, h2⟩, h3⟩) | ⟨⟨h1, h2⟩, h3⟩) | ⟨⟨h1, h2⟩, h3⟩)
    · exact ⟨0, h1, h2, h3⟩
    · exact ⟨1, h1, h2, h3⟩
    · exact ⟨2, h1, h2, h3⟩
    · exact ⟨3, h1, h2, h3⟩
  · rintro ⟨u, h1, h2, h3⟩
    match u with
    | 0 => exact .inl (.inl (.inl ⟨⟨h1, h2⟩, h3⟩))
    | 1 => exact .inl (.inl (.inr ⟨⟨h1, h2⟩, h3⟩))
    | 2 => exact .inl (.inr ⟨⟨h1, h2⟩, h3⟩)
    | 3 => exact .inr ⟨⟨h1, h2⟩, h3⟩
/-- The variable that a quantifier binds. -/
def fresh (v : Fin 4) (s : Nat) (m : M) : Option (Fin 4) :=
  if taken s m v v then
    if taken s m v 0 then if taken s m v 1 then if taken s m v 2 then if taken s m v 3 then none else some 3 else some 2 else some 1 else some 0
  else some v
theorem fresh_free {v u : Fin 4} {s : Nat} {m : M} (h : fresh v s m = some u) : taken s m v u = false := by
  unfold fresh at h
  split at h
  · split at h
    · split at h
      · split at h
        · split at h
          · cases h
          · rename_i e; simp at h; subst h; simpa using e
        · rename_i e; simp at h; subst h; simpa using e
      · rename_i e; simp at h; subst h; simpa using e
    · rename_i e; simp at h; subst h; simpa using e
  · rename_i e; simp at h; subst h; simpa using e
def fput (m : M) (v u : Fin 4) : M := fun x => if x = v then u else m x
/-- Other variables in place of the free ones. -/
def put : T → M → Option T
  | .lit b, _ => some (.lit b)
  | .set v, m => some (.set (m v))
  | .rel e v w, m => some (.rel e (m v) (m w))
  | .neg f, m => (put f m).map .neg
  | .bin o f g, m => (put f m).bind fun a => (put g m).map fun b => .bin o a b
  | .qu q v f, m => (fresh v (free f) m).bind fun u => (put f (fput m v u)).map (.qu q u)
/-- And views in place of atoms. -/
def putV (ps pr : T) : T → M → Option T
  | .lit b, _ => some (.lit b)
  | .set v, m => put ps (fput id 0 (m v))
  | .rel false v w, m => some (.rel false (m v) (m w))
  | .rel true v w, m => put pr (fput (fput id 1 (m w)) 0 (m v))
  | .neg f, m => (putV ps pr f m).map .neg
  | .bin o f g, m => (putV ps pr f m).bind fun a => (putV ps pr g m).map fun b => .bin o a b
  | .qu q v f, m => (fresh v (free f) m).bind fun u => (putV ps pr f (fput m v u)).map (.qu q u)

theorem taken_congr {s : Nat} {m m' : M} {v w : Fin 4} (h : ∀ u : Fin 4, s.testBit u.val = true → u ≠ v → m u = m' u) : taken s m v w = taken s m' v w := by
  rw [Bool.eq_iff_iff, taken_iff, taken_iff]
  constructor
  · rintro ⟨u, h1, h2, h3⟩; exact ⟨u, h1, h2, by rw [← h u h1 h2]; exact h3⟩
  · rintro ⟨u, h1, h2, h3⟩; exact ⟨u, h1, h2, by rw [h u h1 h2]; exact h3⟩
theorem fresh_congr {s : Nat} {m m' : M} {v : Fin 4} (h : ∀ u : Fin 4, s.testBit u.val = true → u ≠ v → m u = m' u) : fresh v s m = fresh v s m' := by
  unfold fresh
  rw [taken_congr h, taken_congr (w := 0) h, taken_congr (w := 1) h, taken_congr (w := 2) h, taken_congr (w := 3) h]
theorem free_set (v u : Fin 4) : (free (.set v)).testBit u.val = decide (v = u) := bit_has v u
theorem free_rel (e : Bool) (v w u : Fin 4) : (free (.rel e v w)).testBit u.val = (decide (v = u) || decide (w = u)) := by
  show (1 <<< v.val ||| 1 <<< w.val).testBit u.val = _
  rw [Nat.testBit_or, bit_has, bit_has]
theorem free_bin (o : Bool) (f g : T) (u : Fin 4) : (free (.bin o f g)).testBit u.val = ((free f).testBit u.val || (free g).testBit u.val) := by
  show (free f ||| free g).testBit u.val = _
  rw [Nat.testBit_or]
theorem free_qu (q : Q) (v : Fin 4) (f : T) (u : Fin 4) : (free (.qu q v f)).testBit u.val = ((free f).testBit u.val && decide (v ≠ u)) := has_rem _ (free_lt f) v u
/-- By the free variables alone. -/
theorem put_congr : ∀ (φ : T) {m m' : M}, (∀ u : Fin 4, (free φ).testBit u.val = true → m u = m' u) → put φ m = put φ m'
  | .lit _, _, _, _ => rfl
  | .set v, m, m', h => by simp only [put]; rw [h v (by rw [free_set]; simp)]
  | .rel e v w, m, m', h => by simp only [put]; rw [h v (by rw [free_rel]; simp), h w (by rw [free_rel]; simp)]
  | .neg f, m, m', h => by simp only [put]; rw [put_congr f h]
  | .bin o f g, m, m', h => by
    simp only [put]
    rw [put_congr f (m' := m') (fun u hu => h u (by rw [free_bin, hu]; rfl)), put_congr g (m' := m') (fun u hu => h u (by rw [free_bin, hu]; simp))]
  | .qu q v f, m, m', h => by
    have h1 : ∀ u : Fin 4, (free f).testBit u.val = true → u ≠ v → m u = m' u := fun u hu hne => h u (by rw [free_qu, hu]; simpa using fun e => hne e.symm)
    simp only [put]
    rw [fresh_congr h1]
    congr 1
    funext u
    rw [put_congr f (m := fput m v u) (m' := fput m' v u)]
    intro x hx
    unfold fput
    split
    · rfl
    · rename_i hne; exact h1 x hx hne
theorem text_put : ∀ (φ : T) {m : M} {ψ : T}, put φ m = some ψ → (text ψ).length = (text φ).length
  | .lit _, _, _, h => by simp [put] at h; subst h; rfl
  | .set v, m, _, h => by simp [put] at h; subst h; rfl
  | .rel e v w, m, _, h => by simp [put] at h; subst h; rfl
  | .neg f, m, ψ, h => by
    simp only [put] at h
    obtain ⟨a, h1, rfl⟩ := Option.map_eq_some_iff.1 h
    simp [text, text_put f h1]
  | .bin o f g, m, ψ, h => by
    simp only [put] at h
    obtain ⟨a, h1, h2⟩ := Option.bind_eq_some_iff.1 h
    obtain ⟨b, h3, rfl⟩ := Option.map_eq_some_iff.1 h2
    simp [text, text_put f h1, text_put g h3]
  | .qu q v f, m, ψ, h => by
    simp only [put] at h
    obtain ⟨u, h1, h2⟩ := Option.bind_eq_some_iff.1 h
    obtain ⟨b, h3, rfl⟩ := Option.map_eq_some_iff.1 h2
    simp [text, text_put f h3]
theorem text_putV {ps pr : T} (h1 : (text ps).length ≤ 4000) (h2 : (text pr).length ≤ 4000) : ∀ (φ : T) {m : M} {ψ : T}, putV ps pr φ m = some ψ → (text ψ).length ≤ (text φ).length * 4000
  | .lit _, _, _, h => by simp [putV] at h; subst h; simp [text]
  | .set v, m, _, h => by simp only [putV] at h; rw [text_put ps h]; simp [text]; omega
  | .rel false v w, m, _, h => by simp [putV] at h; subst h; simp [text]
  | .rel true v w, m, _, h => by simp only [putV] at h; rw [text_put pr h]; simp [text]; omega
  | .neg f, m, ψ, h => by
    simp only [putV] at h
    obtain ⟨a, h3, rfl⟩ := Option.map_eq_some_iff.1 h
    have := text_putV h1 h2 f h3
    simp [text]; omega
  | .bin o f g, m, ψ, h => by
    simp only [putV] at h
    obtain ⟨a, h3, h4⟩ := Option.bind_eq_some_iff.1 h
    obtain ⟨b, h5, rfl⟩ := Option.map_eq_some_iff.1 h4
    have := text_putV h1 h2 f h3
    have := text_putV h1 h2 g h5
    simp [text]; omega
  | .qu q v f, m, ψ, h => by
    simp only [putV] at h
    obtain ⟨u, h3, h4⟩ := Option.bind_eq_some_iff.1 h
    obtain ⟨b, h5, rfl⟩ := Option.map_eq_some_iff.1 h4
    have := text_putV h1 h2 f h5
    simp [text]; omega
end Go.Proofs.Ytadgiknnejjplaa.Fm
