/- Plainly: the number of symmetries of a structure divides that of one of as many elements that keeps them all. No condition beyond those that each states. -/
import Derived.Test.YtnhlhjehocngcaaDoorShape
namespace Go.Proofs.YtnhlhjehocngcaaDoor.Gs
set_option linter.unusedVariables false

theorem nodup_le {α : Type} [DecidableEq α] : ∀ {L M : List α}, L.Nodup → (∀ x ∈ L, x ∈ M) → L.length ≤ M.length
  | [], M, _, _ => Nat.zero_le _
  | x :: L, M, hd, hs => by
    have h := List.nodup_cons.1 hd
    have hx := hs x (by simp)
    have ih := nodup_le (L := L) (M := M.erase x) h.2 (fun y hy => (List.mem_erase_of_ne (by rintro rfl; exact h.1 hy)).2 (hs y (by simp [hy])))
    rw [List.length_erase_of_mem hx] at ih
    have : 0 < M.length := List.length_pos_of_mem hx
    simp only [List.length_cons]; omega
theorem nodup_all {n : Nat} {L : List Nat} (hd : L.Nodup) (hl : L.length = n) (hn : ∀ x ∈ L, x < n) {i : Nat} (hi : i < n) : i ∈ L := by
  refine Classical.byContradiction fun h => ?_
  have := nodup_le (L := i :: L) (M := List.range n) (List.nodup_cons.2 ⟨h, hd⟩) (fun x hx => by
    rw [List.mem_range]
    rcases List.mem_cons.1 hx with rfl | hx
    · exact hi
    · exact hn x hx)
  simp at this
  omega
theorem nodup_map {α β : Type} {f : α → β} : ∀ {L : List α}, L.Nodup → (∀ x ∈ L, ∀ y ∈ L, f x = f y → x = y) → (L.map f).Nodup
  | [], _, _ => List.nodup_nil
  | x :: L, hd, hi => by
    have h := List.nodup_cons.1 hd
    rw [List.map_cons, List.nodup_cons]
    refine ⟨fun hm => ?_, nodup_map h.2 (fun a ha b hb => hi a (by simp [ha]) b (by simp [hb]))⟩
    obtain ⟨y, hy, e⟩ := List.mem_map.1 hm
    have := hi y (by simp [hy]) x (by simp) e
    subst this
    exact h.1 hy
/-- A set that falls into parts of one size. -/
theorem orbits {α : Type} [DecidableEq α] (H : List α) (act : α → α → α) (P : α → Prop) (hH : H.Nodup)
    (inj : ∀ x, P x → ∀ h ∈ H, ∀ k ∈ H, act x h = act x k → h = k)
    (back : ∀ x y, P x → P y → ∀ h ∈ H, ∀ k ∈ H, act y h = act x k → ∃ l ∈ H, y = act x l)
    (one : ∀ x, P x → ∃ e ∈ H, act x e = x) :
    ∀ (n : Nat) (X : List α), X.length ≤ n → X.Nodup → (∀ x ∈ X, P x) → (∀ x ∈ X, ∀ h ∈ H, act x h ∈ X) → H.length ∣ X.length := by
  intro n
  induction n with
  | zero =>
    intro X hl _ _ _
    rw [Nat.le_zero.1 hl]; exact Nat.dvd_zero _
  | succ n ih =>
    intro X hl hd hP hc
    cases hX : X with
    | nil => exact Nat.dvd_zero _
    | cons x X' =>
      have hx : x ∈ X := by rw [hX]; simp
      rw [← hX]
      obtain ⟨e, he, hee⟩ := one x (hP x hx)
      have hO : (H.map (act x)).Nodup := nodup_map hH (fun h hh k hk e => inj x (hP x hx) h hh k hk e)
      have hOX : ∀ y ∈ H.map (act x), y ∈ X := fun y hy => by
        obtain ⟨h, hh, rfl⟩ := List.mem_map.1 hy
        exact hc x hx h hh
      have hlen : (X.filter fun y => decide (y ∈ H.map (act x))).length = H.length := by
        apply Nat.le_antisymm
        · have := nodup_le (L := X.filter fun y => decide (y ∈ H.map (act x))) (M := H.map (act x)) (hd.filter _) (fun y hy => of_decide_eq_true (List.mem_filter.1 hy).2)
          rwa [List.length_map] at this
        · have := nodup_le (L := H.map (act x)) (M := X.filter fun y => decide (y ∈ H.map (act x))) hO (fun y hy => List.mem_filter.2 ⟨hOX y hy, decide_eq_true hy⟩)
          rwa [List.length_map] at this
      have hsum : X.length = (X.filter fun y => decide (y ∈ H.map (act x))).length + (X.filter fun y => !decide (y ∈ H.map (act x))).length := by
        have := List.length_eq_countP_add_countP (fun y => decide (y ∈ H.map (act x))) (l := X)
        rw [List.countP_eq_length_filter, List.countP_eq_length_filter] at this
        rw [this]
        congr 2
        apply List.filter_congr
        intro y _
        cases decide (y ∈ H.map (act x)) <;> rfl
      have hpos : 0 < (X.filter fun y => decide (y ∈ H.map (act x))).length := List.length_pos_of_mem (List.mem_filter.2 ⟨hx, decide_eq_true (List.mem_map.2 ⟨e, he, hee⟩)⟩)
      have hY := ih (X.filter fun y => !decide (y ∈ H.map (act x))) (by omega) (hd.filter _) (fun y hy => hP y (List.mem_filter.1 hy).1) (fun y hy h hh => by
        have hy' := List.mem_filter.1 hy
        refine List.mem_filter.2 ⟨hc y hy'.1 h hh, ?_⟩
        have hn : ¬ y ∈ H.map (act x) := by simpa using hy'.2
        have : ¬ act y h ∈ H.map (act x) := fun hm => by
          obtain ⟨k, hk, e⟩ := List.mem_map.1 hm
          obtain ⟨l, hl, rfl⟩ := back x y (hP x hx) (hP y hy'.1) h hh k hk e.symm
          exact hn (List.mem_map.2 ⟨l, hl, rfl⟩)
        simpa using this)
      rw [hsum, hlen]
      exact Nat.dvd_add (Nat.dvd_refl _) hY

/-- One order behind another. -/
def comp (p q : List Nat) : List Nat := q.map fun i => p.getD i 0
theorem comp_at {p q : List Nat} {i : Nat} (h : i < q.length) : (comp p q).getD i 0 = p.getD (q.getD i 0) 0 := by
  unfold comp
  simp [h]
theorem gd_mem {p : List Nat} {i : Nat} (h : i < p.length) : p.getD i 0 ∈ p := by simp [h]
theorem gd_inj {p : List Nat} (hd : p.Nodup) {i j : Nat} (hi : i < p.length) (hj : j < p.length) (e : p.getD i 0 = p.getD j 0) : i = j := by
  simp only [List.getD_eq_getElem?_getD, List.getElem?_eq_getElem hi, List.getElem?_eq_getElem hj, Option.getD_some] at e
  rcases Nat.lt_trichotomy i j with h | h | h
  · exact absurd e (List.pairwise_iff_getElem.1 hd i j hi hj h)
  · exact h
  · exact absurd e.symm (List.pairwise_iff_getElem.1 hd j i hj hi h)
theorem ext_gd {p q : List Nat} (hl : p.length = q.length) (h : ∀ i, i < p.length → p.getD i 0 = q.getD i 0) : p = q := by
  apply List.ext_getElem hl
  intro i h1 h2
  have := h i h1
  simpa [h1, h2] using this
theorem comp_sym {a : St} {p q : List Nat} (hp : Turns a a p) (hq : Turns a a q) (lp : p.length = a.n) (lq : q.length = a.n) : Turns a a (comp p q) ∧ (comp p q).length = a.n := by
  have hl : (comp p q).length = a.n := by unfold comp; simpa using lq
  have hin : ∀ i, i < a.n → q.getD i 0 < a.n := fun i hi => hq.lt _ (gd_mem (by omega))
  refine ⟨⟨?_, ?_, fun i hi => ?_, fun i j hi hj => ?_⟩, hl⟩
  · refine nodup_map hq.nodup (fun x hx y hy e => gd_inj hp.nodup (by rw [lp]; exact hq.lt x hx) (by rw [lp]; exact hq.lt y hy) e)
  · intro x hx
    obtain ⟨i, hi, rfl⟩ := List.mem_map.1 hx
    exact hp.lt _ (gd_mem (by rw [lp]; exact hq.lt i hi))
  · rw [hl] at hi
    rw [comp_at (by omega), hp.s _ (by have := hin i hi; omega), hq.s _ (by omega)]
  · rw [hl] at hi hj
    rw [comp_at (by omega), comp_at (by omega), hp.r _ _ (by have := hin i hi; omega) (by have := hin j hj; omega), hq.r _ _ (by omega) (by omega)]
/-- The order that undoes another. -/
def undo (n : Nat) (p : List Nat) : List Nat := (List.range n).map fun i => p.idxOf i
theorem undo_at {n : Nat} {p : List Nat} (hd : p.Nodup) (hl : p.length = n) (hn : ∀ x ∈ p, x < n) {i : Nat} (hi : i < n) : (undo n p).getD i 0 < n ∧ p.getD ((undo n p).getD i 0) 0 = i := by
  have hm := nodup_all hd hl hn hi
  have e : (undo n p).getD i 0 = p.idxOf i := by unfold undo; simp [hi]
  have h1 : p.idxOf i < p.length := List.idxOf_lt_length_of_mem hm
  rw [e]
  refine ⟨by omega, ?_⟩
  rw [List.getD_eq_getElem?_getD, List.getElem?_eq_getElem h1, Option.getD_some]
  exact List.getElem_idxOf h1
theorem undo_sym {a : St} {p : List Nat} (hp : Turns a a p) (lp : p.length = a.n) : Turns a a (undo a.n p) ∧ (undo a.n p).length = a.n := by
  have hl : (undo a.n p).length = a.n := by unfold undo; simp
  have hat := fun i (hi : i < a.n) => undo_at hp.nodup lp hp.lt hi
  have hnd : (undo a.n p).Nodup := by
    refine List.pairwise_iff_getElem.2 fun i j hi hj hij e => ?_
    have h1 := hat i (by omega)
    have h2 := hat j (by omega)
    have e' : (undo a.n p).getD i 0 = (undo a.n p).getD j 0 := by simp [hi, hj, e]
    rw [e'] at h1
    omega
  refine ⟨⟨hnd, fun x hx => ?_, fun i hi => ?_, fun i j hi hj => ?_⟩, hl⟩
  · obtain ⟨i, hi, rfl⟩ := List.mem_iff_getElem.1 hx
    have := (hat i (by omega)).1
    simpa [hi] using this
  · rw [hl] at hi
    have h := hat i hi
    have := hp.s _ (show (undo a.n p).getD i 0 < p.length by omega)
    rw [h.2] at this
    exact this.symm
  · rw [hl] at hi hj
    have h := hat i hi
    have h' := hat j hj
    have := hp.r _ _ (show (undo a.n p).getD i 0 < p.length by omega) (show (undo a.n p).getD j 0 < p.length by omega)
    rw [h.2, h'.2] at this
    exact this.symm
theorem comp_undo {p q : List Nat} {n : Nat} (hp : p.Nodup) (lp : p.length = n) (hn : ∀ x ∈ p, x < n) : comp q (comp p (undo n p)) = comp q (List.range n) := by
  have l1 : (undo n p).length = n := by unfold undo; simp
  have l2 : (comp p (undo n p)).length = n := by unfold comp; simpa using l1
  apply ext_gd
  · unfold comp; simpa using l1
  · intro i hi
    have hi' : i < n := by unfold comp at hi; simpa [l1] using hi
    rw [comp_at (by omega), comp_at (by omega), (undo_at hp lp hn hi').2, comp_at (by simpa using hi')]
    simp [hi']
theorem comp_range {p : List Nat} {n : Nat} (lp : p.length = n) : comp p (List.range n) = p := by
  apply ext_gd
  · unfold comp; simpa using lp.symm
  · intro i hi
    have hi' : i < n := by unfold comp at hi; simpa using hi
    rw [comp_at (by simpa using hi')]
    simp [hi']
theorem comp_assoc {p q r : List Nat} (h : ∀ x ∈ r, x < q.length) : comp (comp p q) r = comp p (comp q r) := by
  unfold comp
  rw [List.map_map]
  apply List.map_congr_left
  intro x hx
  simp [h x hx]
theorem id_sym (a : St) : Turns a a (List.range a.n) ∧ (List.range a.n).length = a.n := by
  have h : ∀ i, i < a.n → (List.range a.n).getD i 0 = i := fun i hi => by simp [hi]
  refine ⟨⟨List.nodup_range, fun x hx => List.mem_range.1 hx, fun i hi => ?_, fun i j hi hj => ?_⟩, by simp⟩
  · rw [List.length_range] at hi
    rw [h i hi]
  · rw [List.length_range] at hi hj
    rw [h i hi, h j hj]
/-- A structure that keeps another one's symmetries has a multiple of them. -/
theorem shapes_dvd {a b : St} (hn : a.n = b.n) (hk : ∀ p, Turns a a p → p.length = a.n → Turns b b p) : (shapes a a).length ∣ (shapes b b).length := by
  have mem : ∀ {c : St} {p : List Nat}, p ∈ shapes c c ↔ Turns c c p ∧ p.length = c.n := shapes_mem
  have sub : ∀ p ∈ shapes a a, Turns b b p ∧ p.length = b.n := fun p hp => by
    have := mem.1 hp
    exact ⟨hk p this.1 this.2, by rw [this.2, hn]⟩
  refine orbits (shapes a a) comp (fun x => Turns b b x ∧ x.length = b.n) (shapes_nodup a a) ?_ ?_ ?_ _ (shapes b b) (Nat.le_refl _) (shapes_nodup b b) (fun x hx => mem.1 hx) ?_
  · intro x hx h hh k hkk e
    have h1 := mem.1 hh
    have h2 := mem.1 hkk
    refine ext_gd (by omega) (fun i hi => ?_)
    have := congrArg (fun l => List.getD l i 0) e
    change (comp x h).getD i 0 = (comp x k).getD i 0 at this
    rw [comp_at hi, comp_at (by omega)] at this
    exact gd_inj hx.1.nodup (by rw [hx.2, ← hn]; exact h1.1.lt _ (gd_mem hi)) (by rw [hx.2, ← hn]; exact h2.1.lt _ (gd_mem (by omega))) this
  · intro x y hx hy h hh k hkk e
    have h1 := mem.1 hh
    have h2 := mem.1 hkk
    have hu := undo_sym h1.1 h1.2
    have hc := comp_sym h2.1 hu.1 h2.2 hu.2
    refine ⟨comp k (undo a.n h), mem.2 hc, ?_⟩
    have e2 := congrArg (fun l => comp l (undo a.n h)) e
    change comp (comp y h) (undo a.n h) = comp (comp x k) (undo a.n h) at e2
    rw [comp_assoc (fun z hz => by rw [h1.2]; exact hu.1.lt z hz), comp_assoc (fun z hz => by rw [h2.2]; exact hu.1.lt z hz), comp_undo h1.1.nodup h1.2 h1.1.lt, comp_range (by rw [hy.2, hn])] at e2
    exact e2
  · intro x hx
    exact ⟨List.range a.n, mem.2 (id_sym a), comp_range (by rw [hx.2, hn])⟩
  · intro x hx h hh
    have h1 := mem.1 hx
    have h2 := sub h hh
    exact mem.2 (comp_sym h1.1 h2.1 h1.2 h2.2)
end Go.Proofs.YtnhlhjehocngcaaDoor.Gs
