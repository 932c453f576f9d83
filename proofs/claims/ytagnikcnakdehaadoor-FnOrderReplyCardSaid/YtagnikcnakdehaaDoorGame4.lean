/- Orders of different lengths are told apart, plainly: if the second player wins the game of two orders, these are alike. No condition. -/
import Derived.Test.YtagnikcnakdehaaDoorGame3
namespace Go.Proofs.YtagnikcnakdehaaDoor.Gs
set_option linter.unusedVariables false

/-- All pairs of places are in the same way. -/
def Pairs (a : St) (as : List Nat) (b : St) (bs : List Nat) : Prop :=
  as.length = bs.length ∧ ∀ p ∈ as.zip bs, ∀ q ∈ as.zip bs, a.s p.1 = b.s p.2 ∧ (p.1 = q.1 ↔ p.2 = q.2) ∧ a.r p.1 q.1 = b.r p.2 q.2
theorem pairs_iff {a b : St} : ∀ (n : Nat) (as bs : List Nat), as.length = n → bs.length = n → (atoms a as = atoms b bs ↔ Pairs a as b bs) := by
  intro n
  induction n with
  | zero =>
    intro as bs ha hb
    obtain rfl := List.eq_nil_of_length_eq_zero ha
    obtain rfl := List.eq_nil_of_length_eq_zero hb
    simp [atoms, atomsTo, Pairs]
  | succ n ih =>
    intro as bs ha hb
    rcases list_snoc as with rfl | ⟨as, x, rfl⟩
    · simp at ha
    rcases list_snoc bs with rfl | ⟨bs, y, rfl⟩
    · simp at hb
    simp at ha hb
    have hl : as.length = bs.length := by omega
    rw [atoms_snoc_iff hl, ih as bs ha hb, still_iff]
    unfold Pairs
    rw [zip_snoc hl]
    constructor
    · rintro ⟨⟨_, h1⟩, s1, s2, s3⟩
      refine ⟨by simp [hl], fun p hp q hq => ?_⟩
      rcases List.mem_append.1 hp with hp | hp
      · rcases List.mem_append.1 hq with hq | hq
        · exact h1 p hp q hq
        · simp at hq; subst hq
          obtain ⟨t1, t2, t3⟩ := s3 p hp
          exact ⟨(h1 p hp p hp).1, t1, t2⟩
      · simp at hp; subst hp
        rcases List.mem_append.1 hq with hq | hq
        · obtain ⟨t1, t2, t3⟩ := s3 q hq
          exact ⟨s1, ⟨fun e => (t1.1 e.symm).symm, fun e => (t1.2 e.symm).symm⟩, t3⟩
        · simp at hq; subst hq
          exact ⟨s1, ⟨fun _ => rfl, fun _ => rfl⟩, s2⟩
    · rintro ⟨_, h⟩
      have m1 : ∀ p, p ∈ as.zip bs → p ∈ as.zip bs ++ [(x, y)] := fun p hp => List.mem_append.2 (.inl hp)
      have m2 : (x, y) ∈ as.zip bs ++ [(x, y)] := List.mem_append.2 (.inr (by simp))
      refine ⟨⟨hl, fun p hp q hq => h p (m1 p hp) q (m1 q hq)⟩, (h _ m2 _ m2).1, (h _ m2 _ m2).2.2, fun p hp => ?_⟩
      exact ⟨(h p (m1 p hp) _ m2).2.1, (h p (m1 p hp) _ m2).2.2, (h _ m2 p (m1 p hp)).2.2⟩

/-- Elements from lo on, renamed, behind one element that tells which they are. -/
theorem ord_part {lo lo' d d' n m x y : Nat} (hn : lo + d ≤ n) (hm : lo' + d' ≤ m)
    (hd : ∀ z z', z < n → z' < m → ((z = x ↔ z' = y) ∧ (z < x ↔ z' < y)) → ((lo ≤ z ∧ z < lo + d) ↔ (lo' ≤ z' ∧ z' < lo' + d'))) :
    ∀ {k : Nat} {L M : List Nat}, L.length = M.length → (∀ z ∈ L, z < d) → (∀ z ∈ M, z < d') → Eqv k (ord n) (x :: L.map (lo + ·)) (ord m) (y :: M.map (lo' + ·)) → Eqv k (ord d) L (ord d') M := by
  have base : ∀ {L M : List Nat}, L.length = M.length → atoms (ord n) (x :: L.map (lo + ·)) = atoms (ord m) (y :: M.map (lo' + ·)) → atoms (ord d) L = atoms (ord d') M := by
    intro L M hl h
    have h := ((pairs_iff (L.length + 1) _ _ (by simp) (by simp [hl])).1 h).2
    refine (pairs_iff L.length _ _ rfl hl.symm).2 ⟨hl, fun p hp q hq => ?_⟩
    have mem : ∀ p ∈ L.zip M, (lo + p.1, lo' + p.2) ∈ (x :: L.map (lo + ·)).zip (y :: M.map (lo' + ·)) := by
      intro p hp
      rw [List.zip_cons_cons, List.zip_map]
      exact List.mem_cons_of_mem _ (List.mem_map.2 ⟨p, hp, rfl⟩)
    obtain ⟨_, h2, h3⟩ := h _ (mem p hp) _ (mem q hq)
    refine ⟨rfl, ?_, ?_⟩
    · constructor
      · intro e; have := h2.1 (by simp [e]); simpa using this
      · intro e; have := h2.2 (by simp [e]); simpa using this
    · simp only [ord, decide_eq_decide] at h3 ⊢
      constructor
      · intro e; have := h3.1 (by simp; exact e); simp at this; exact this
      · intro e; have := h3.2 (by simp; exact e); simp at this; exact this
  have tell : ∀ {L M : List Nat} {z z' : Nat}, L.length = M.length → atoms (ord n) (x :: L.map (lo + ·) ++ [z]) = atoms (ord m) (y :: M.map (lo' + ·) ++ [z']) → ((z = x ↔ z' = y) ∧ (z < x ↔ z' < y)) := by
    intro L M z z' hl h
    have h := (still_iff.1 ((atoms_snoc_iff (by simp [hl])).1 h).2).2.2 (x, y) (by simp)
    obtain ⟨h1, h2, h3⟩ := h
    refine ⟨⟨fun e => (h1.1 e.symm).symm, fun e => (h1.2 e.symm).symm⟩, ?_⟩
    simpa [ord, decide_eq_decide] using h3
  intro k
  induction k with
  | zero => intro L M hl _ _ h; exact base hl h
  | succ k ih =>
    intro L M hl hL hM h
    refine ⟨base hl h.1, fun z hz => ?_, fun z' hz' => ?_⟩
    · have hz : z < d := hz
      obtain ⟨z', hz', e⟩ := h.2.1 (lo + z) (by show _ < n; omega)
      have hz' : z' < m := hz'
      have ht := (hd _ _ (by omega) hz' (tell hl e.atoms)).1 (by omega)
      refine ⟨z' - lo', by show _ < d'; omega, ih (by simp [hl]) ?_ ?_ ?_⟩
      · intro u hu; rcases List.mem_append.1 hu with hu | hu
        · exact hL u hu
        · simp at hu; omega
      · intro u hu; rcases List.mem_append.1 hu with hu | hu
        · exact hM u hu
        · simp at hu; omega
      · rw [List.map_append, List.map_append]
        simp only [List.map_cons, List.map_nil, show lo' + (z' - lo') = z' by omega]
        exact e
    · have hz' : z' < d' := hz'
      obtain ⟨z, hz, e⟩ := h.2.2 (lo' + z') (by show _ < m; omega)
      have hz : z < n := hz
      have ht := (hd _ _ hz (by omega) (tell hl e.atoms)).2 (by omega)
      refine ⟨z - lo, by show _ < d; omega, ih (by simp [hl]) ?_ ?_ ?_⟩
      · intro u hu; rcases List.mem_append.1 hu with hu | hu
        · exact hL u hu
        · simp at hu; omega
      · intro u hu; rcases List.mem_append.1 hu with hu | hu
        · exact hM u hu
        · simp at hu; omega
      · rw [List.map_append, List.map_append]
        simp only [List.map_cons, List.map_nil, show lo + (z - lo) = z by omega]
        exact e

theorem alike_no {k n m : Nat} (hnm : n < m) (hn : n < 2 * 2 ^ k - 1) : ∃ y, y < m ∧ ∀ x, x < n → ¬ (alike k x y ∧ alike k (n - 1 - x) (m - 1 - y)) := by
  have hp := pow_pos' k
  unfold alike
  generalize 2 ^ k = p at *
  by_cases h : n < p - 1
  · exact ⟨0, by omega, fun x hx => by omega⟩
  · exact ⟨n - (p - 1), by omega, fun x hx => by omega⟩
theorem ord_alike : ∀ {k n m : Nat}, Eqv k (ord n) [] (ord m) [] → alike k n m
  | 0, n, m, _ => .inr ⟨by simp, by simp⟩
  | k + 1, n, m, h => by
    have cut : ∀ {n m x y : Nat}, x < n → y < m → Eqv k (ord n) ([] ++ [x]) (ord m) ([] ++ [y]) → alike k x y ∧ alike k (n - 1 - x) (m - 1 - y) := by
      intro n m x y hx hy e
      refine ⟨ord_alike (ord_part (n := n) (m := m) (lo := 0) (lo' := 0) (d := x) (d' := y) (x := x) (y := y) (by omega) (by omega) ?_ rfl (by simp) (by simp) (by simpa using e)),
        ord_alike (ord_part (n := n) (m := m) (lo := x + 1) (lo' := y + 1) (d := n - 1 - x) (d' := m - 1 - y) (x := x) (y := y) (by omega) (by omega) ?_ rfl (by simp) (by simp) (by simpa using e))⟩
      · intro z z' hz hz' ht; omega
      · intro z z' hz hz' ht; omega
    have one : ∀ {n m : Nat}, n < m → (∀ y, y < m → ∃ x, x < n ∧ alike k x y ∧ alike k (n - 1 - x) (m - 1 - y)) → alike (k + 1) n m := by
      intro n m hnm hh
      by_cases hn : n < 2 * 2 ^ k - 1
      · obtain ⟨y, hy, hno⟩ := alike_no hnm hn
        obtain ⟨x, hx, h1, h2⟩ := hh y hy
        exact absurd ⟨h1, h2⟩ (hno x hx)
      · refine .inr ?_
        rw [Nat.pow_succ]
        omega
    rcases Nat.lt_trichotomy n m with hl | hl | hl
    · refine one hl fun y hy => ?_
      obtain ⟨x, hx, e⟩ := h.2.2 y hy
      exact ⟨x, hx, cut hx hy e⟩
    · exact .inl hl
    · refine alike_symm (one hl fun x hx => ?_)
      obtain ⟨y, hy, e⟩ := h.2.1 x hx
      obtain ⟨h1, h2⟩ := cut hx hy e
      exact ⟨y, hy, alike_symm h1, alike_symm h2⟩
/-- Two orders with a choice and its reply. -/
theorem ord_eqv1 {k n m x y : Nat} (hx : x < n) (hy : y < m) (h1 : alike k x y) (h2 : alike k (n - 1 - x) (m - 1 - y)) : Eqv k (ord n) [x] (ord m) [y] := by
  have split : ∀ {n x : Nat}, x < n → Like (ord n) (osum (ord x) (osum (ord 1) (ord (n - 1 - x)))) := by
    intro n x hx
    refine ⟨by show n = x + (1 + (n - 1 - x)); omega, fun z hz => ?_, fun z u hz hu => ?_⟩
    · simp [osum, ord]
    · have hz : z < n := hz
      have hu : u < n := hu
      simp only [osum, ord]
      by_cases c1 : z < x
      · by_cases c2 : u < x
        · simp [c1, c2]
        · simp [c1, c2]; omega
      · by_cases c2 : u < x
        · simp [c1, c2]; omega
        · by_cases c3 : z - x < 1
          · by_cases c4 : u - x < 1
            · simp [c1, c2, c3, c4]; omega
            · simp [c1, c2, c3, c4]; omega
          · by_cases c4 : u - x < 1
            · simp [c1, c2, c3, c4]; omega
            · simp [c1, c2, c3, c4]; omega
  refine Like.eqv2 (split hx) (split hy) (by simp; exact hx) (by simp; exact hy) ?_
  have := (Mix.right (n := (ord x).n) (n' := (ord y).n) (y := 0) (y' := 0) Mix.nil).eqv (ord_eqv h1) ((Mix.left (n := (ord 1).n) (n' := (ord 1).n) (x := 0) (x' := 0) Mix.nil (by decide) (by decide)).eqv (Eqv.refl k (ord 1) [0]) (ord_eqv h2))
  exact this
end Go.Proofs.YtagnikcnakdehaaDoor.Gs
