/- The numbers of the descriptions of what can happen in a game: two numbers are equal exactly if the game does not tell apart. No condition. -/
import Derived.Test.YtadgiknnejjplaaDoorGame
import Derived.Lib.ItoaNum
namespace Go.Proofs.YtadgiknnejjplaaDoor.Gs
set_option linter.unusedVariables false

theorem dig_ne (u : Nat) : ∀ c ∈ Lib.decDigits u, 48 ≤ c.toNat ∧ c.toNat ≤ 57 := by
  induction u using Nat.strongRecOn with
  | _ u ih =>
    have hd : ∀ d, d < 10 → 48 ≤ (UInt8.ofNat (48 + d)).toNat ∧ (UInt8.ofNat (48 + d)).toNat ≤ 57 := by
      intro d hd
      have e : (UInt8.ofNat (48 + d)).toNat = (48 + d) % 256 := rfl
      rw [e]
      omega
    intro c hc
    rw [Lib.decDigits] at hc
    by_cases h : u < 10
    · rw [dif_pos h] at hc
      rw [List.mem_singleton.1 hc]
      exact hd u h
    · rw [dif_neg h] at hc
      rcases List.mem_append.1 hc with hc | hc
      · exact ih (u / 10) (by omega) c hc
      · rw [List.mem_singleton.1 hc]
        exact hd _ (by omega)
theorem dig_inj : ∀ (u v : Nat), Lib.decDigits u = Lib.decDigits v → u = v := by
  intro u
  induction u using Nat.strongRecOn with
  | _ u ih =>
    have key : ∀ a b, a < 10 → b < 10 → UInt8.ofNat (48 + a) = UInt8.ofNat (48 + b) → a = b := by
      intro a b ha hb h
      have h1 : (48 + a) % 256 = (48 + b) % 256 := congrArg UInt8.toNat h
      omega
    have pos : ∀ n, 0 < (Lib.decDigits n).length := by
      intro n; rw [Lib.decDigits]; split <;> simp
    intro v h
    have e1 := Lib.decDigits.eq_1 u
    have e2 := Lib.decDigits.eq_1 v
    rw [e1, e2] at h
    by_cases hu : u < 10
    · rw [dif_pos hu] at h
      by_cases hv : v < 10
      · rw [dif_pos hv] at h
        exact key u v hu hv (List.cons.inj h).1
      · rw [dif_neg hv] at h
        have h1 := congrArg List.length h
        have h2 := pos (v / 10)
        rw [List.length_append, List.length_singleton, List.length_singleton] at h1
        omega
    · rw [dif_neg hu] at h
      by_cases hv : v < 10
      · rw [dif_pos hv] at h
        have h1 := congrArg List.length h
        have h2 := pos (u / 10)
        rw [List.length_append, List.length_singleton, List.length_singleton] at h1
        omega
      · rw [dif_neg hv] at h
        obtain ⟨h1, h2⟩ := List.append_inj' h rfl
        have h3 := ih (u / 10) (by omega) _ h1
        have h4 := key (u % 10) (v % 10) (by omega) (by omega) (List.cons.inj h2).1
        omega

/-- Numbers, each behind a comma. -/
def commas (L : List Nat) : List UInt8 := L.flatMap fun n => 44 :: Lib.decDigits n
/-- The description of what can happen: the rounds, the atoms, and the numbers of what can come next. -/
def desc (r : Nat) (at' : List UInt8) (L : List Nat) : List UInt8 := Lib.decDigits r ++ [58] ++ (at' ++ commas L)

theorem split44 : ∀ {a b c d : List UInt8}, (∀ x ∈ a, x ≠ 44) → (∀ x ∈ c, x ≠ 44) → (b = [] ∨ ∃ t, b = 44 :: t) → (d = [] ∨ ∃ t, d = 44 :: t) → a ++ b = c ++ d → a = c ∧ b = d
  | [], b, [], d, _, _, _, _, h => ⟨rfl, h⟩
  | [], b, y :: c, d, _, hc, hb, _, h => by
    rcases hb with rfl | ⟨t, rfl⟩
    · simp at h
    · simp at h
      exact absurd h.1.symm (hc y (by simp))
  | x :: a, b, [], d, ha, _, _, hd, h => by
    rcases hd with rfl | ⟨t, rfl⟩
    · simp at h
    · simp at h
      exact absurd h.1 (ha x (by simp))
  | x :: a, b, y :: c, d, ha, hc, hb, hd, h => by
    simp only [List.cons_append, List.cons.injEq] at h
    obtain ⟨h1, h2⟩ := split44 (fun z hz => ha z (by simp [hz])) (fun z hz => hc z (by simp [hz])) hb hd h.2
    exact ⟨by rw [h.1, h1], h2⟩
theorem commas_form : ∀ L : List Nat, commas L = [] ∨ ∃ t, commas L = 44 :: t
  | [] => .inl rfl
  | n :: L => .inr ⟨_, rfl⟩
theorem dig_44 (u : Nat) : ∀ x ∈ Lib.decDigits u, x ≠ 44 := by
  intro x hx e
  have := dig_ne u x hx
  rw [e] at this
  exact absurd this.1 (by decide)
theorem commas_inj : ∀ {L M : List Nat}, commas L = commas M → L = M
  | [], [], _ => rfl
  | [], m :: M, h => by simp [commas] at h
  | n :: L, [], h => by simp [commas] at h
  | n :: L, m :: M, h => by
    have h' : Lib.decDigits n ++ commas L = Lib.decDigits m ++ commas M := by
      simpa [commas] using h
    obtain ⟨h1, h2⟩ := split44 (dig_44 n) (dig_44 m) (commas_form L) (commas_form M) h'
    rw [dig_inj _ _ h1, commas_inj h2]
theorem bitU_44 (b : Bool) : bitU b ≠ 44 := by cases b <;> decide
theorem atomsAt_44 (a : St) (as : List Nat) (x : Nat) : ∀ c ∈ atomsAt a as x, c ≠ 44 := by
  intro c hc
  rcases List.mem_cons.1 hc with rfl | hc
  · exact bitU_44 _
  · obtain ⟨y, _, hy⟩ := List.mem_flatMap.1 hc
    simp at hy
    rcases hy with rfl | rfl | rfl <;> exact bitU_44 _
theorem atomsTo_44 (a : St) (as : List Nat) (i : Nat) : ∀ c ∈ atomsTo a as i, c ≠ 44 := by
  induction i with
  | zero => intro c hc; cases hc
  | succ i ih =>
    intro c hc
    rcases List.mem_append.1 hc with hc | hc
    · exact ih c hc
    · exact atomsAt_44 _ _ _ c hc
theorem desc_inj {r : Nat} {a b : St} {as bs : List Nat} {L M : List Nat} (h : desc r (atoms a as) L = desc r (atoms b bs) M) : atoms a as = atoms b bs ∧ L = M := by
  unfold desc at h
  have h := List.append_cancel_left h
  obtain ⟨h1, h2⟩ := split44 (atomsTo_44 a as _) (atomsTo_44 b bs _) (commas_form L) (commas_form M) h
  exact ⟨h1, commas_inj h2⟩

/-- In the descriptions D, n is the number of what can happen in a game of r rounds. -/
def TypeNum (D : List (List UInt8)) (a : St) : Nat → List Nat → Nat → Prop
  | 0, as, n => D[n]? = some (desc 0 (atoms a as) [])
  | r + 1, as, n => ∃ L : List Nat, L.Pairwise (· < ·) ∧ (∀ x, x < a.n → ∃ m ∈ L, TypeNum D a r (as ++ [x]) m) ∧ (∀ m ∈ L, ∃ x, x < a.n ∧ TypeNum D a r (as ++ [x]) m) ∧ D[n]? = some (desc (r + 1) (atoms a as) L)

theorem TypeNum.more {D E : List (List UInt8)} {a : St} : ∀ {r : Nat} {as : List Nat} {n : Nat}, TypeNum D a r as n → TypeNum (D ++ E) a r as n
  | 0, as, n, h => by
    have hn : n < D.length := (List.getElem?_eq_some_iff.1 h).1
    show (D ++ E)[n]? = _
    rw [List.getElem?_append_left hn]; exact h
  | r + 1, as, n, ⟨L, h1, h2, h3, h4⟩ => by
    have hn : n < D.length := (List.getElem?_eq_some_iff.1 h4).1
    refine ⟨L, h1, fun x hx => ?_, fun m hm => ?_, ?_⟩
    · obtain ⟨m, hm, h⟩ := h2 x hx
      exact ⟨m, hm, h.more⟩
    · obtain ⟨x, hx, h⟩ := h3 m hm
      exact ⟨x, hx, h.more⟩
    · rw [List.getElem?_append_left hn]; exact h4
theorem nodup_at {α : Type} {D : List α} (h : D.Nodup) {n m : Nat} {x : α} (hn : D[n]? = some x) (hm : D[m]? = some x) : n = m := by
  obtain ⟨h1, h2⟩ := List.getElem?_eq_some_iff.1 hn
  obtain ⟨h3, h4⟩ := List.getElem?_eq_some_iff.1 hm
  have hp := List.pairwise_iff_getElem.1 h
  rcases Nat.lt_trichotomy n m with hl | hl | hl
  · exact absurd (h2.trans h4.symm) (hp n m h1 h3 hl)
  · exact hl
  · exact absurd (h4.trans h2.symm) (hp m n h3 h1 hl)
theorem sorted_ext : ∀ {L M : List Nat}, L.Pairwise (· < ·) → M.Pairwise (· < ·) → (∀ x, x ∈ L ↔ x ∈ M) → L = M
  | [], [], _, _, _ => rfl
  | [], m :: M, _, _, h => by have := (h m).2 (by simp); cases this
  | n :: L, [], _, _, h => by have := (h n).1 (by simp); cases this
  | n :: L, m :: M, hL, hM, h => by
    have hL' := List.pairwise_cons.1 hL
    have hM' := List.pairwise_cons.1 hM
    have e : n = m := by
      rcases List.mem_cons.1 ((h n).1 (by simp)) with e | h1
      · exact e
      · rcases List.mem_cons.1 ((h m).2 (by simp)) with e | h2
        · exact e.symm
        · have := hL'.1 m h2
          have := hM'.1 n h1
          omega
    subst e
    congr 1
    refine sorted_ext hL'.2 hM'.2 fun x => ?_
    constructor
    · intro hx
      rcases List.mem_cons.1 ((h x).1 (by simp [hx])) with e | h1
      · have := hL'.1 x hx; omega
      · exact h1
    · intro hx
      rcases List.mem_cons.1 ((h x).2 (by simp [hx])) with e | h1
      · have := hM'.1 x hx; omega
      · exact h1
theorem typeNum_iff {D : List (List UInt8)} (hD : D.Nodup) {a b : St} : ∀ {r : Nat} {as bs : List Nat} {n m : Nat}, TypeNum D a r as n → TypeNum D b r bs m → (n = m ↔ Eqv r a as b bs)
  | 0, as, bs, n, m, h, k => by
    have h : D[n]? = some (desc 0 (atoms a as) []) := h
    have k : D[m]? = some (desc 0 (atoms b bs) []) := k
    show _ ↔ atoms a as = atoms b bs
    constructor
    · intro e
      subst e
      rw [h] at k
      exact (desc_inj (Option.some.inj k)).1
    · intro e
      rw [e] at h
      exact nodup_at hD h k
  | r + 1, as, bs, n, m, ⟨L, l1, l2, l3, l4⟩, ⟨M, m1, m2, m3, m4⟩ => by
    constructor
    · intro e
      subst e
      rw [l4] at m4
      obtain ⟨ha, hL⟩ := desc_inj (Option.some.inj m4)
      subst hL
      refine ⟨ha, fun x hx => ?_, fun y hy => ?_⟩
      · obtain ⟨k, hk, h1⟩ := l2 x hx
        obtain ⟨y, hy, h2⟩ := m3 k hk
        exact ⟨y, hy, (typeNum_iff hD h1 h2).1 rfl⟩
      · obtain ⟨k, hk, h1⟩ := m2 y hy
        obtain ⟨x, hx, h2⟩ := l3 k hk
        exact ⟨x, hx, (typeNum_iff hD h2 h1).1 rfl⟩
    · rintro ⟨ha, h1, h2⟩
      have hL : L = M := by
        refine sorted_ext l1 m1 fun k => ?_
        constructor
        · intro hk
          obtain ⟨x, hx, t1⟩ := l3 k hk
          obtain ⟨y, hy, e⟩ := h1 x hx
          obtain ⟨k', hk', t2⟩ := m2 y hy
          rw [(typeNum_iff hD t1 t2).2 e]; exact hk'
        · intro hk
          obtain ⟨y, hy, t2⟩ := m3 k hk
          obtain ⟨x, hx, e⟩ := h2 y hy
          obtain ⟨k', hk', t1⟩ := l2 x hx
          rw [← (typeNum_iff hD t1 t2).2 e]; exact hk'
      rw [ha, hL] at l4
      exact nodup_at hD l4 m4
/-- A number put into a list of numbers that goes up, once. -/
def ins : List Nat → Nat → List Nat
  | [], n => [n]
  | x :: L, n => if x = n then x :: L else if n < x then n :: x :: L else x :: ins L n
theorem mem_ins {L : List Nat} {n x : Nat} : x ∈ ins L n ↔ x = n ∨ x ∈ L := by
  induction L with
  | nil => simp [ins]
  | cons y L ih =>
    unfold ins
    split
    · rename_i h; subst h; simp
    · split
      · simp
      · simp only [List.mem_cons, ih]
        constructor
        · rintro (h | h | h) <;> simp [h]
        · rintro (h | h | h) <;> simp [h]
theorem ins_sorted {L : List Nat} {n : Nat} (h : L.Pairwise (· < ·)) : (ins L n).Pairwise (· < ·) := by
  induction L with
  | nil => simp [ins]
  | cons y L ih =>
    have h' := List.pairwise_cons.1 h
    unfold ins
    split
    · exact h
    · split
      · rename_i h1 h2
        refine List.pairwise_cons.2 ⟨fun z hz => ?_, h⟩
        rcases List.mem_cons.1 hz with rfl | hz
        · exact h2
        · have := h'.1 z hz; omega
      · rename_i h1 h2
        refine List.pairwise_cons.2 ⟨fun z hz => ?_, ih h'.2⟩
        rcases mem_ins.1 hz with rfl | hz
        · omega
        · exact h'.1 z hz
theorem ins_length (L : List Nat) (n : Nat) : (ins L n).length ≤ L.length + 1 := by
  induction L with
  | nil => simp [ins]
  | cons y L ih =>
    unfold ins
    split
    · simp
    · split
      · simp
      · simp; omega
/-- How far a list goes where a number is put in. -/
theorem ins_at (L : List Nat) (n : Nat) : ∀ k, k ≤ L.length → (∀ j (h : j < L.length), j < k → L[j] < n) →
    ins L n = L.take k ++ ins (L.drop k) n := by
  intro k
  induction k generalizing L with
  | zero => intro _ _; simp
  | succ k ih =>
    intro hk h
    match L with
    | [] => simp at hk
    | x :: L =>
      have h0 := h 0 (by simp) (by omega)
      simp at h0
      rw [ins, if_neg (by omega), if_neg (by omega), ih L (by simpa using hk) (fun j hj hjk => by have := h (j + 1) (by simpa using hj) (by omega); simpa using this)]
      simp
end Go.Proofs.YtadgiknnejjplaaDoor.Gs
