/- Games of sums, powers and orders, plainly: what is not told apart stays so in an ordered sum; powers and orders are not told apart exactly if they are alike. No condition. -/
import Derived.Test.YtagnikcnakdehaaDoorGame2
namespace Go.Proofs.YtagnikcnakdehaaDoor.Gs
set_option linter.unusedVariables false

theorem eqv_less : ∀ {k : Nat} {a b : St} {as bs : List Nat}, Eqv (k + 1) a as b bs → Eqv k a as b bs
  | 0, _, _, _, _, h => h.1
  | k + 1, _, _, _, _, ⟨h1, h2, h3⟩ => ⟨h1, fun x hx => let ⟨y, hy, h⟩ := h2 x hx; ⟨y, hy, eqv_less h⟩, fun y hy => let ⟨x, hx, h⟩ := h3 y hy; ⟨x, hx, eqv_less h⟩⟩
theorem eqv_len {k : Nat} {a b : St} {as bs : List Nat} (h : Eqv k a as b bs) : as.length = bs.length := atoms_len_eq h.atoms

theorem atoms_snoc_iff {a b : St} {as bs : List Nat} {x y : Nat} (hl : as.length = bs.length) : atoms a (as ++ [x]) = atoms b (bs ++ [y]) ↔ atoms a as = atoms b bs ∧ still a as b bs x y = true := by
  rw [atoms_snoc, atoms_snoc, ← atomsAt_eq hl]
  constructor
  · intro h
    exact append_inj_len h (atomsTo_length a b as bs (fun _ _ => trivial) as.length (Nat.le_refl _) (by omega) |>.trans (by unfold atoms; rw [hl]))
  · rintro ⟨h1, h2⟩; rw [h1, h2]
theorem still_iff {a b : St} {as bs : List Nat} {x y : Nat} : still a as b bs x y = true ↔ a.s x = b.s y ∧ a.r x x = b.r y y ∧ ∀ p ∈ as.zip bs, (p.1 = x ↔ p.2 = y) ∧ a.r p.1 x = b.r p.2 y ∧ a.r x p.1 = b.r y p.2 := by
  simp only [still, Bool.and_eq_true, beq_iff_eq, List.all_eq_true, decide_eq_decide]
  constructor
  · rintro ⟨⟨h1, h2⟩, h3⟩
    exact ⟨h1, h2, fun p hp => ⟨(h3 p hp).1.1, (h3 p hp).1.2, (h3 p hp).2⟩⟩
  · rintro ⟨h1, h2, h3⟩
    exact ⟨⟨h1, h2⟩, fun p hp => ⟨⟨(h3 p hp).1, (h3 p hp).2.1⟩, (h3 p hp).2.2⟩⟩

/-- One structure before another one. -/
def osum (a b : St) : St where
  n := a.n + b.n
  s := fun x => if x < a.n then a.s x else b.s (x - a.n)
  r := fun x y => if x < a.n then (if y < a.n then a.r x y else true) else (if y < a.n then false else b.r (x - a.n) (y - a.n))

/-- Lists of two sums, and their parts. -/
inductive Mix (n n' : Nat) : List Nat → List Nat → List Nat → List Nat → List Nat → List Nat → Prop
  | nil : Mix n n' [] [] [] [] [] []
  | left {L as bs L' as' bs' : List Nat} {x x' : Nat} : Mix n n' L as bs L' as' bs' → x < n → x' < n' → Mix n n' (L ++ [x]) (as ++ [x]) bs (L' ++ [x']) (as' ++ [x']) bs'
  | right {L as bs L' as' bs' : List Nat} {y y' : Nat} : Mix n n' L as bs L' as' bs' → Mix n n' (L ++ [n + y]) as (bs ++ [y]) (L' ++ [n' + y']) as' (bs' ++ [y'])
theorem Mix.len {n n' : Nat} {L as bs L' as' bs' : List Nat} (h : Mix n n' L as bs L' as' bs') : L.length = L'.length ∧ as.length = as'.length ∧ bs.length = bs'.length := by
  induction h with
  | nil => simp
  | left _ _ _ ih => simp [ih.1, ih.2.1, ih.2.2]
  | right _ ih => simp [ih.1, ih.2.1, ih.2.2]
theorem zip_snoc {α : Type} {l m : List α} {x y : α} (h : l.length = m.length) : (l ++ [x]).zip (m ++ [y]) = l.zip m ++ [(x, y)] := by
  rw [List.zip_append h]; rfl
theorem Mix.zip {n n' : Nat} {L as bs L' as' bs' : List Nat} (h : Mix n n' L as bs L' as' bs') : ∀ p ∈ L.zip L', (p ∈ as.zip as' ∧ p.1 < n ∧ p.2 < n') ∨ ∃ q ∈ bs.zip bs', p = (n + q.1, n' + q.2) := by
  induction h with
  | nil => intro p hp; simp at hp
  | left h hx hx' ih =>
    intro p hp
    rw [zip_snoc h.len.1] at hp
    rw [zip_snoc h.len.2.1]
    rcases List.mem_append.1 hp with hp | hp
    · rcases ih p hp with h1 | h1
      · exact .inl ⟨List.mem_append.2 (.inl h1.1), h1.2⟩
      · exact .inr h1
    · simp at hp
      subst hp
      exact .inl ⟨List.mem_append.2 (.inr (by simp)), hx, hx'⟩
  | right h ih =>
    intro p hp
    rw [zip_snoc h.len.1] at hp
    rw [zip_snoc h.len.2.2]
    rcases List.mem_append.1 hp with hp | hp
    · rcases ih p hp with h1 | ⟨q, hq, e⟩
      · exact .inl h1
      · exact .inr ⟨q, List.mem_append.2 (.inl hq), e⟩
    · simp at hp
      subst hp
      exact .inr ⟨(_, _), List.mem_append.2 (.inr (List.mem_singleton.2 rfl)), rfl⟩

theorem Mix.atoms {a b a' b' : St} {L as bs L' as' bs' : List Nat} (h : Mix a.n a'.n L as bs L' as' bs') : atoms a as = Gs.atoms a' as' → Gs.atoms b bs = Gs.atoms b' bs' → Gs.atoms (osum a b) L = Gs.atoms (osum a' b') L' := by
  induction h with
  | nil => intro _ _; rfl
  | @left L as bs L' as' bs' x x' h hx hx' ih =>
    intro h1 h2
    obtain ⟨h3, h4⟩ := (atoms_snoc_iff h.len.2.1).1 h1
    refine (atoms_snoc_iff h.len.1).2 ⟨ih h3 h2, ?_⟩
    obtain ⟨s1, s2, s3⟩ := still_iff.1 h4
    refine still_iff.2 ⟨?_, ?_, fun p hp => ?_⟩
    · simp only [osum, if_pos hx, if_pos hx']; exact s1
    · simp only [osum, if_pos hx, if_pos hx']; exact s2
    · rcases h.zip p hp with ⟨hp, p1, p2⟩ | ⟨q, hq, rfl⟩
      · simp only [osum, if_pos hx, if_pos hx', if_pos p1, if_pos p2]; exact s3 p hp
      · have e1 : ¬ a.n + q.1 < a.n := by omega
        have e2 : ¬ a'.n + q.2 < a'.n := by omega
        simp only [osum, if_pos hx, if_pos hx', if_neg e1, if_neg e2]
        exact ⟨⟨fun e => by omega, fun e => by omega⟩, trivial, trivial⟩
  | @right L as bs L' as' bs' y y' h ih =>
    intro h1 h2
    obtain ⟨h3, h4⟩ := (atoms_snoc_iff h.len.2.2).1 h2
    refine (atoms_snoc_iff h.len.1).2 ⟨ih h1 h3, ?_⟩
    obtain ⟨s1, s2, s3⟩ := still_iff.1 h4
    have e1 : ∀ z, ¬ a.n + z < a.n := fun z => by omega
    have e2 : ∀ z, ¬ a'.n + z < a'.n := fun z => by omega
    refine still_iff.2 ⟨?_, ?_, fun p hp => ?_⟩
    · simp only [osum, if_neg (e1 _), if_neg (e2 _), Nat.add_sub_cancel_left]; exact s1
    · simp only [osum, if_neg (e1 _), if_neg (e2 _), Nat.add_sub_cancel_left]; exact s2
    · rcases h.zip p hp with ⟨hp, p1, p2⟩ | ⟨q, hq, rfl⟩
      · simp only [osum, if_neg (e1 _), if_neg (e2 _), if_pos p1, if_pos p2]
        exact ⟨⟨fun e => by omega, fun e => by omega⟩, trivial, trivial⟩
      · simp only [osum, if_neg (e1 _), if_neg (e2 _), Nat.add_sub_cancel_left]
        obtain ⟨t1, t2, t3⟩ := s3 q hq
        exact ⟨⟨fun e => by have := t1.1 (by omega); omega, fun e => by have := t1.2 (by omega); omega⟩, t2, t3⟩

theorem Mix.eqv {a b a' b' : St} : ∀ {k : Nat} {L as bs L' as' bs' : List Nat}, Mix a.n a'.n L as bs L' as' bs' → Eqv k a as a' as' → Eqv k b bs b' bs' → Eqv k (osum a b) L (osum a' b') L'
  | 0, _, _, _, _, _, _, h, h1, h2 => h.atoms h1 h2
  | k + 1, L, as, bs, L', as', bs', h, h1, h2 => by
    refine ⟨h.atoms h1.1 h2.1, fun x hx => ?_, fun y hy => ?_⟩
    · by_cases hxa : x < a.n
      · obtain ⟨y, hy, e⟩ := h1.2.1 x hxa
        exact ⟨y, by show y < a'.n + b'.n; omega, (h.left hxa hy).eqv e (eqv_less h2)⟩
      · have hx : x < a.n + b.n := hx
        obtain ⟨y, hy, e⟩ := h2.2.1 (x - a.n) (by omega)
        refine ⟨a'.n + y, by show _ < a'.n + b'.n; omega, ?_⟩
        have := (Mix.right (y := x - a.n) (y' := y) h).eqv (eqv_less h1) e
        rw [show a.n + (x - a.n) = x by omega] at this
        exact this
    · by_cases hya : y < a'.n
      · obtain ⟨x, hx, e⟩ := h1.2.2 y hya
        exact ⟨x, by show x < a.n + b.n; omega, (h.left hx hya).eqv e (eqv_less h2)⟩
      · have hy : y < a'.n + b'.n := hy
        obtain ⟨x, hx, e⟩ := h2.2.2 (y - a'.n) (by omega)
        refine ⟨a.n + x, by show _ < a.n + b.n; omega, ?_⟩
        have := (Mix.right (y := x) (y' := y - a'.n) h).eqv (eqv_less h1) e
        rw [show a'.n + (y - a'.n) = y by omega] at this
        exact this
theorem osum_eqv {k : Nat} {a b a' b' : St} (h1 : Eqv k a [] a' []) (h2 : Eqv k b [] b' []) : Eqv k (osum a b) [] (osum a' b') [] := Mix.nil.eqv h1 h2

/-- Two structures that are the same where they have elements. -/
structure Like (a b : St) : Prop where
  n : a.n = b.n
  s : ∀ x, x < a.n → a.s x = b.s x
  r : ∀ x y, x < a.n → y < a.n → a.r x y = b.r x y
theorem Like.still {a b : St} (h : Like a b) {as : List Nat} {x : Nat} (ha : ∀ y ∈ as, y < a.n) (hx : x < a.n) : still a as b as x x = true := by
  refine still_iff.2 ⟨h.s x hx, h.r x x hx hx, fun p hp => ?_⟩
  have e : p.1 = p.2 ∧ p.1 ∈ as := by
    obtain ⟨i, hi, rfl⟩ := List.mem_iff_getElem.1 hp
    simp
  have hp1 := ha _ e.2
  rw [← e.1]
  exact ⟨Iff.rfl, h.r _ _ hp1 hx, h.r _ _ hx hp1⟩
theorem Like.atoms {a b : St} (h : Like a b) : ∀ (n : Nat) (as : List Nat), as.length = n → (∀ y ∈ as, y < a.n) → atoms a as = Gs.atoms b as := by
  intro n
  induction n with
  | zero => intro as hl _; obtain rfl := List.eq_nil_of_length_eq_zero hl; rfl
  | succ n ih =>
    intro as hl ha
    rcases list_snoc as with rfl | ⟨as, x, rfl⟩
    · simp at hl
    · exact (atoms_snoc_iff rfl).2 ⟨ih as (by simpa using hl) (fun y hy => ha y (by simp [hy])), h.still (fun y hy => ha y (by simp [hy])) (ha x (by simp))⟩
theorem Like.eqv {a b : St} (h : Like a b) : ∀ {k : Nat} {as : List Nat}, (∀ y ∈ as, y < a.n) → Eqv k a as b as
  | 0, as, ha => h.atoms _ as rfl ha
  | k + 1, as, ha => by
    have more : ∀ x, x < a.n → ∀ y ∈ as ++ [x], y < a.n := by
      intro x hx y hy
      rcases List.mem_append.1 hy with hy | hy
      · exact ha y hy
      · simp at hy; omega
    exact ⟨h.atoms _ as rfl ha, fun x hx => ⟨x, by rw [← h.n]; exact hx, h.eqv (more x hx)⟩, fun x hx => ⟨x, by rw [h.n]; exact hx, h.eqv (more x (by rw [h.n]; exact hx))⟩⟩

/-- Alike lengths. -/
def alike (k n m : Nat) : Prop := n = m ∨ 2 ^ k - 1 ≤ n ∧ 2 ^ k - 1 ≤ m
theorem alike_symm {k n m : Nat} (h : alike k n m) : alike k m n := by
  rcases h with h | ⟨h1, h2⟩
  · exact .inl h.symm
  · exact .inr ⟨h2, h1⟩
theorem pow_pos' (k : Nat) : 1 ≤ 2 ^ k := Nat.one_le_two_pow
theorem alike_reply {k n m x : Nat} (h : alike (k + 1) n m) (hx : x < n) : ∃ y, y < m ∧ alike k x y ∧ alike k (n - 1 - x) (m - 1 - y) := by
  have hp := pow_pos' k
  have e : 2 ^ (k + 1) = 2 * 2 ^ k := by rw [Nat.pow_succ]; omega
  unfold alike at *
  rw [e] at h
  generalize 2 ^ k = p at *
  rcases h with rfl | ⟨h1, h2⟩
  · exact ⟨x, hx, .inl rfl, .inl rfl⟩
  · by_cases c1 : x < p - 1
    · exact ⟨x, by omega, .inl rfl, .inr ⟨by omega, by omega⟩⟩
    · by_cases c2 : n - 1 - x < p - 1
      · exact ⟨m - 1 - (n - 1 - x), by omega, .inr ⟨by omega, by omega⟩, .inl (by omega)⟩
      · exact ⟨p - 1, by omega, .inr ⟨by omega, by omega⟩, .inr ⟨by omega, by omega⟩⟩
theorem alike_less {k n m : Nat} (h : alike (k + 1) n m) : alike k n m := by
  have hp := pow_pos' k
  have e : 2 ^ (k + 1) = 2 * 2 ^ k := by rw [Nat.pow_succ]; omega
  unfold alike at *
  rw [e] at h
  omega

/-- A power: a structure n times, one before another. -/
def pw (a : St) : Nat → St
  | 0 => ⟨0, fun _ => false, fun _ _ => false⟩
  | n + 1 => osum a (pw a n)
theorem pw_n (a : St) (n : Nat) : (pw a n).n = n * a.n := by
  induction n with
  | zero => simp [pw]
  | succ n ih => show a.n + (pw a n).n = _; rw [ih, Nat.succ_mul]; omega
theorem osum_assoc (a b c : St) : Like (osum (osum a b) c) (osum a (osum b c)) := by
  refine ⟨by show a.n + b.n + c.n = a.n + (b.n + c.n); omega, fun x hx => ?_, fun x y hx hy => ?_⟩
  · have hx : x < a.n + b.n + c.n := hx
    simp only [osum]
    by_cases h1 : x < a.n
    · simp [h1, show x < a.n + b.n by omega]
    · by_cases h2 : x < a.n + b.n
      · simp [h1, h2, show x - a.n < b.n by omega]
      · simp [h1, h2, show ¬ x - a.n < b.n by omega, show x - (a.n + b.n) = x - a.n - b.n by omega]
  · simp only [osum]
    by_cases h1 : x < a.n
    · by_cases k1 : y < a.n
      · simp [h1, k1, show x < a.n + b.n by omega, show y < a.n + b.n by omega]
      · by_cases k2 : y < a.n + b.n
        · simp [h1, k1, k2, show x < a.n + b.n by omega]
        · simp [h1, k1, k2, show x < a.n + b.n by omega]
    · by_cases h2 : x < a.n + b.n
      · by_cases k1 : y < a.n
        · simp [h1, h2, k1, show y < a.n + b.n by omega]
        · by_cases k2 : y < a.n + b.n
          · simp [h1, h2, k1, k2, show x - a.n < b.n by omega, show y - a.n < b.n by omega]
          · simp [h1, h2, k1, k2, show x - a.n < b.n by omega, show ¬ y - a.n < b.n by omega]
      · by_cases k1 : y < a.n
        · simp [h1, h2, k1, show y < a.n + b.n by omega]
        · by_cases k2 : y < a.n + b.n
          · simp [h1, h2, k1, k2, show ¬ x - a.n < b.n by omega, show y - a.n < b.n by omega]
          · simp [h1, h2, k1, k2, show ¬ x - a.n < b.n by omega, show ¬ y - a.n < b.n by omega, show x - (a.n + b.n) = x - a.n - b.n by omega, show y - (a.n + b.n) = y - a.n - b.n by omega]

theorem Like.refl (a : St) : Like a a := ⟨rfl, fun _ _ => rfl, fun _ _ _ _ => rfl⟩
theorem Like.symm {a b : St} (h : Like a b) : Like b a := ⟨h.n.symm, fun x hx => (h.s x (by rw [h.n]; exact hx)).symm, fun x y hx hy => (h.r x y (by rw [h.n]; exact hx) (by rw [h.n]; exact hy)).symm⟩
theorem Like.trans {a b c : St} (h : Like a b) (k : Like b c) : Like a c :=
  ⟨h.n.trans k.n, fun x hx => (h.s x hx).trans (k.s x (by rw [← h.n]; exact hx)), fun x y hx hy => (h.r x y hx hy).trans (k.r x y (by rw [← h.n]; exact hx) (by rw [← h.n]; exact hy))⟩
theorem Like.sum {a b a' b' : St} (h : Like a a') (k : Like b b') : Like (osum a b) (osum a' b') := by
  refine ⟨by show a.n + b.n = a'.n + b'.n; rw [h.n, k.n], fun x hx => ?_, fun x y hx hy => ?_⟩
  · have hx : x < a.n + b.n := hx
    simp only [osum, ← h.n]
    by_cases h1 : x < a.n
    · rw [if_pos h1, if_pos h1]; exact h.s x h1
    · rw [if_neg h1, if_neg h1]; exact k.s _ (by omega)
  · have hx : x < a.n + b.n := hx
    have hy : y < a.n + b.n := hy
    simp only [osum, ← h.n]
    by_cases h1 : x < a.n
    · by_cases h2 : y < a.n
      · simp only [if_pos h1, if_pos h2]; exact h.r x y h1 h2
      · simp only [if_pos h1, if_neg h2]
    · by_cases h2 : y < a.n
      · simp only [if_neg h1, if_pos h2]
      · simp only [if_neg h1, if_neg h2]; exact k.r _ _ (by omega) (by omega)
theorem zero_osum (a b : St) (h : a.n = 0) : Like (osum a b) b := by
  refine ⟨by show a.n + b.n = b.n; omega, fun x _ => ?_, fun x y _ _ => ?_⟩
  · simp [osum, h]
  · simp [osum, h]
theorem osum_zero (a b : St) (h : b.n = 0) : Like (osum a b) a := by
  refine ⟨by show a.n + b.n = a.n; omega, fun x hx => ?_, fun x y hx hy => ?_⟩
  · have hx : x < a.n + b.n := hx
    have : x < a.n := by omega
    simp [osum, this]
  · have hx : x < a.n + b.n := hx
    have hy : y < a.n + b.n := hy
    have h1 : x < a.n := by omega
    have h2 : y < a.n := by omega
    simp [osum, h1, h2]
theorem pw_split (a : St) (j : Nat) : ∀ i, Like (pw a (i + 1 + j)) (osum (pw a i) (osum a (pw a j)))
  | 0 => by
    rw [show 0 + 1 + j = j + 1 by omega]
    exact (zero_osum (pw a 0) _ rfl).symm
  | i + 1 => by
    rw [show i + 1 + 1 + j = (i + 1 + j) + 1 by omega]
    show Like (osum a (pw a (i + 1 + j))) (osum (osum a (pw a i)) _)
    exact ((Like.refl a).sum (pw_split a j i)).trans (osum_assoc a (pw a i) _).symm
/-- Eqv through structures that are the same. -/
theorem Like.eqv2 {a b a' b' : St} {k : Nat} {as bs : List Nat} (h : Like a b) (h' : Like a' b') (ha : ∀ y ∈ as, y < a.n) (hb : ∀ y ∈ bs, y < a'.n) (e : Eqv k b as b' bs) : Eqv k a as a' bs :=
  (h.eqv ha).trans (e.trans (h'.eqv hb).symm)
theorem pw_eqv (a : St) : ∀ {k n m : Nat}, alike k n m → Eqv k (pw a n) [] (pw a m) []
  | 0, n, m, _ => rfl
  | k + 1, n, m, h => by
    have half : ∀ {n m : Nat}, alike (k + 1) n m → ∀ x, x < (pw a n).n → ∃ y, y < (pw a m).n ∧ Eqv k (pw a n) ([] ++ [x]) (pw a m) ([] ++ [y]) := by
      intro n m h x hx
      have hx' : x < n * a.n := by rw [← pw_n]; exact hx
      have ha : 0 < a.n := by
        rcases Nat.eq_zero_or_pos a.n with h0 | h0
        · rw [h0] at hx'; omega
        · exact h0
      have hi : x / a.n < n := (Nat.div_lt_iff_lt_mul ha).2 hx'
      have hp : x % a.n < a.n := Nat.mod_lt _ ha
      have hxe : x = x / a.n * a.n + x % a.n := by rw [Nat.mul_comm]; exact (Nat.div_add_mod x a.n).symm
      generalize x / a.n = i at *
      generalize x % a.n = p at *
      obtain ⟨j, hj, e1, e2⟩ := alike_reply h hi
      have hin : (pw a i).n + p = x := by rw [pw_n]; exact hxe.symm
      have l1 := pw_split a (n - 1 - i) i
      have l2 := pw_split a (m - 1 - j) j
      rw [show i + 1 + (n - 1 - i) = n by omega] at l1
      rw [show j + 1 + (m - 1 - j) = m by omega] at l2
      have hy : (pw a j).n + p < (pw a m).n := by
        rw [l2.n]
        show _ < (pw a j).n + (a.n + _)
        omega
      refine ⟨(pw a j).n + p, hy, ?_⟩
      refine Like.eqv2 l1 l2 (by intro y hy; simp at hy; omega) (by intro y hy'; simp at hy'; omega) ?_
      rw [← hin]
      exact (Mix.right (y := p) (y' := p) Mix.nil).eqv (pw_eqv a e1) ((Mix.left (x := p) (x' := p) Mix.nil hp hp).eqv (Eqv.refl k a _) (pw_eqv a e2))
    refine ⟨rfl, half h, fun y hy => ?_⟩
    obtain ⟨x, hx, e⟩ := half (alike_symm h) y hy
    exact ⟨x, hx, e.symm⟩

/-- The order of n elements. -/
def ord (n : Nat) : St := ⟨n, fun _ => false, fun x y => decide (x < y)⟩
theorem pw_ord (n : Nat) : Like (pw (ord 1) n) (ord n) := by
  induction n with
  | zero => exact ⟨rfl, fun x hx => absurd hx (Nat.not_lt_zero _), fun x y hx => absurd hx (Nat.not_lt_zero _)⟩
  | succ n ih =>
    have h : Like (osum (ord 1) (ord n)) (ord (n + 1)) := by
      refine ⟨by show 1 + n = n + 1; omega, fun x hx => ?_, fun x y hx hy => ?_⟩
      · simp [osum, ord]
      · simp only [osum, ord]
        by_cases h1 : x < 1
        · by_cases h2 : y < 1
          · simp [h1, h2]
          · simp [h1, h2]; omega
        · by_cases h2 : y < 1
          · simp [h1, h2]; omega
          · simp [h1, h2]; omega
    exact ((Like.refl _).sum ih).trans h
theorem ord_eqv {k n m : Nat} (h : alike k n m) : Eqv k (ord n) [] (ord m) [] :=
  Like.eqv2 (pw_ord n).symm (pw_ord m).symm (by simp) (by simp) (pw_eqv (ord 1) h)
end Go.Proofs.YtagnikcnakdehaaDoor.Gs
