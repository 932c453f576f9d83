/- Contracts of the program's functions and what they compute: part 32. Conditions: those that each theorem states. -/
import Derived.Test.YtofmagiahmmmgaaGreatDoorP53n12
import Derived.Test.YtofmagiahmmmgaaGreatDoorP53n24
import Derived.Test.YtofmagiahmmmgaaGreatDoorP53n31
namespace Go.Proofs.YtofmagiahmmmgaaGreatDoor
namespace Col
set_option linter.unusedVariables false
/-- What an element of two structures, one behind the other, is called in a round. -/
def dsc2 (a b : Gs.St) : Nat → Nat → List Nat
  | 0, z => if z < a.n then first a z else first b (z - a.n)
  | r + 1, z => if z < a.n then descr a ((after [a, b] r).take a.n) z else descr b (((after [a, b] r).drop a.n).take b.n) (z - a.n)
def all2 (a b : Gs.St) (r : Nat) : List (List Nat) := (List.range (a.n + b.n)).map (dsc2 a b r)
theorem range_two (f : Nat → List Nat) (g : Nat → List Nat) (n m : Nat) : (List.range n).map f ++ (List.range m).map g = (List.range (n + m)).map fun z => if z < n then f z else g (z - n) := by
  rw [List.range_add, List.map_append, List.map_map]
  congr 1
  · apply List.map_congr_left
    intro z hz
    rw [if_pos (List.mem_range.1 hz)]
  · apply List.map_congr_left
    intro z hz
    show g z = if n + z < n then _ else g (n + z - n)
    rw [if_neg (by omega), Nat.add_sub_cancel_left]
theorem after_all2 (a b : Gs.St) : ∀ r, after [a, b] r = cols (all2 a b r)
  | 0 => by
    unfold after firsts all2
    congr 1
    simp only [firsts, List.append_nil]
    rw [range_two]
    rfl
  | r + 1 => by
    rw [after]
    congr 1
    unfold all2
    simp only [descrs, List.append_nil]
    rw [range_two]
    rfl
/-- The colour of an element. -/
def cz (a b : Gs.St) (r z : Nat) : Nat := (after [a, b] r).getD z 0
theorem cz_rk (a b : Gs.St) (r : Nat) {z : Nat} (hz : z < a.n + b.n) : cz a b r z = rk (all2 a b r) (dsc2 a b r z) := by
  unfold cz
  rw [after_all2]
  unfold cols
  have : (all2 a b r).getD z [] = dsc2 a b r z := by unfold all2; simp [hz]
  have hl : z < (all2 a b r).length := by unfold all2; simpa using hz
  rw [List.getD_eq_getElem?_getD, List.getElem?_map, List.getElem?_eq_getElem hl]
  rw [List.getD_eq_getElem?_getD, List.getElem?_eq_getElem hl] at this
  simp only [Option.map_some, Option.getD_some] at this ⊢
  rw [this]
theorem mem_all2 (a b : Gs.St) (r : Nat) {z : Nat} (hz : z < a.n + b.n) : dsc2 a b r z ∈ all2 a b r := List.mem_map.2 ⟨z, List.mem_range.2 hz, rfl⟩
theorem cz_iff {a b : Gs.St} {r z y : Nat} (hz : z < a.n + b.n) (hy : y < a.n + b.n) : cz a b r z = cz a b r y ↔ dsc2 a b r z = dsc2 a b r y := by
  rw [cz_rk a b r hz, cz_rk a b r hy]
  exact ⟨fun h => rk_inj (mem_all2 a b r hz) (mem_all2 a b r hy) h, fun h => by rw [h]⟩
theorem getD_take {L : List Nat} {n z : Nat} (h : z < n) : (L.take n).getD z 0 = L.getD z 0 := by
  rw [List.getD_eq_getElem?_getD, List.getElem?_take, if_pos h, ← List.getD_eq_getElem?_getD]
theorem getD_dt {L : List Nat} {n m z : Nat} (h : z < m) : ((L.drop n).take m).getD z 0 = L.getD (n + z) 0 := by
  rw [getD_take h, List.getD_eq_getElem?_getD, List.getElem?_drop, ← List.getD_eq_getElem?_getD]
theorem descr_head (a : Gs.St) (c : List Nat) (x : Nat) : ∃ t, descr a c x = c.getD x 0 :: t := ⟨_, by simp only [descr, List.cons_append]; rfl⟩
theorem head_dsc2 (a b : Gs.St) (r : Nat) {z : Nat} (hz : z < a.n + b.n) : ∃ t, dsc2 a b (r + 1) z = cz a b r z :: t := by
  simp only [dsc2]
  by_cases h : z < a.n
  · rw [if_pos h]
    obtain ⟨t, ht⟩ := descr_head a ((after [a, b] r).take a.n) z
    exact ⟨t, by rw [ht, getD_take h]; rfl⟩
  · rw [if_neg h]
    obtain ⟨t, ht⟩ := descr_head b (((after [a, b] r).drop a.n).take b.n) (z - a.n)
    refine ⟨t, ?_⟩
    rw [ht, getD_dt (by omega), show a.n + (z - a.n) = z by omega]
    rfl
theorem cz_down {a b : Gs.St} {r z y : Nat} (hz : z < a.n + b.n) (hy : y < a.n + b.n) (h : cz a b (r + 1) z = cz a b (r + 1) y) : cz a b r z = cz a b r y := by
  rw [cz_iff hz hy] at h
  obtain ⟨s, hs⟩ := head_dsc2 a b r hz
  obtain ⟨t, ht⟩ := head_dsc2 a b r hy
  rw [hs, ht] at h
  injection h
theorem cz_zero {a b : Gs.St} {z y : Nat} (hz : z < a.n + b.n) (hy : y < a.n + b.n) : ∀ r, cz a b r z = cz a b r y → cz a b 0 z = cz a b 0 y
  | 0, h => h
  | r + 1, h => cz_zero hz hy r (cz_down hz hy h)
/-- How many colours there are. -/
def K (a b : Gs.St) (r : Nat) : Nat := (srt (all2 a b r)).length
theorem K_top (a b : Gs.St) (r : Nat) : K a b r ≤ a.n + b.n := by
  have := len_srt (all2 a b r)
  unfold K all2 at *
  simpa using this
theorem K_up {a b : Gs.St} {r z y : Nat} (hz : z < a.n + b.n) (hy : y < a.n + b.n) (h : cz a b r z = cz a b r y) (hn : cz a b (r + 1) z ≠ cz a b (r + 1) y) : K a b r + 1 ≤ K a b (r + 1) := by
  have hne : dsc2 a b (r + 1) z ≠ dsc2 a b (r + 1) y := fun e => hn ((cz_iff hz hy).2 e)
  have hmy : dsc2 a b (r + 1) y ∈ srt (all2 a b (r + 1)) := mem_srt.2 (mem_all2 a b (r + 1) hy)
  have h1 : ((srt (all2 a b r)).map (rk (all2 a b r))).Nodup := Gs.nodup_map (strict_nodup (strict_srt _)) fun d hd e he => rk_inj (mem_srt.1 hd) (mem_srt.1 he)
  have h2 := Gs.nodup_le (M := ((srt (all2 a b (r + 1))).erase (dsc2 a b (r + 1) y)).map fun d => d.headD 0) h1 (fun c hc => by
    obtain ⟨d, hd, rfl⟩ := List.mem_map.1 hc
    obtain ⟨v, hv, rfl⟩ := List.mem_map.1 (mem_srt.1 hd)
    have hv := List.mem_range.1 hv
    rw [← cz_rk a b r hv]
    obtain ⟨t, ht⟩ := head_dsc2 a b r hv
    by_cases e : dsc2 a b (r + 1) v = dsc2 a b (r + 1) y
    · obtain ⟨s, hs⟩ := head_dsc2 a b r hz
      have hvy : cz a b r v = cz a b r y := cz_down hv hy ((cz_iff hv hy).2 e)
      refine List.mem_map.2 ⟨dsc2 a b (r + 1) z, (List.mem_erase_of_ne hne).2 (mem_srt.2 (mem_all2 a b (r + 1) hz)), ?_⟩
      rw [hs, hvy, ← h]
      rfl
    · refine List.mem_map.2 ⟨dsc2 a b (r + 1) v, (List.mem_erase_of_ne e).2 (mem_srt.2 (mem_all2 a b (r + 1) hv)), ?_⟩
      rw [ht]
      rfl)
  rw [List.length_map, List.length_map, List.length_erase_of_mem hmy] at h2
  have : 0 < (srt (all2 a b (r + 1))).length := List.length_pos_of_mem hmy
  unfold K
  omega
/-- A round that no further round refines. -/
def Still (a b : Gs.St) (r : Nat) : Prop := ∀ z y, z < a.n + b.n → y < a.n + b.n → cz a b r z = cz a b r y → cz a b (r + 1) z = cz a b (r + 1) y
theorem still_some (a b : Gs.St) : ∃ r, r ≤ a.n + b.n ∧ Still a b r := by
  refine Classical.byContradiction fun hno => ?_
  have hs : ∀ r, r ≤ a.n + b.n → K a b r + 1 ≤ K a b (r + 1) := fun r hr => by
    refine Classical.byContradiction fun h2 => hno ⟨r, hr, fun z y hz hy h => ?_⟩
    refine Classical.byContradiction fun h3 => h2 (K_up hz hy h h3)
  have hk : ∀ r, r ≤ a.n + b.n + 1 → r ≤ K a b r := fun r => by
    induction r with
    | zero => intro _; omega
    | succ r ih =>
      intro hr
      have := hs r (by omega)
      have := ih (by omega)
      omega
  have h1 := hk (a.n + b.n + 1) (Nat.le_refl _)
  have h2 := K_top a b (a.n + b.n + 1)
  omega
theorem mem_sortL {L : List Nat} {x : Nat} : x ∈ sortL L ↔ x ∈ L := by unfold sortL; exact List.mem_mergeSort
theorem len_sortL (L : List Nat) : (sortL L).length = L.length := by unfold sortL; exact List.length_mergeSort ..
theorem seg_eq {A B X Y : List Nat} (h : A.length :: sortL A ++ X = B.length :: sortL B ++ Y) : sortL A = sortL B ∧ X = Y := by
  rw [List.cons_append, List.cons_append] at h
  injection h with h1 h2
  exact List.append_inj h2 (by rw [len_sortL, len_sortL, h1])
theorem descr_parts {a b : Gs.St} {c d : List Nat} {x y : Nat} (h : descr a c x = descr b d y) : c.getD x 0 = d.getD y 0 ∧ ∀ k, k < 4 → sortL (ways a c x k a.n) = sortL (ways b d y k b.n) := by
  unfold descr at h
  simp only [List.append_assoc, List.singleton_append] at h
  injection h with h0 h
  obtain ⟨s0, h⟩ := seg_eq h
  obtain ⟨s1, h⟩ := seg_eq h
  obtain ⟨s2, h⟩ := seg_eq h
  have h3 : (ways a c x 3 a.n).length :: sortL (ways a c x 3 a.n) ++ [] = (ways b d y 3 b.n).length :: sortL (ways b d y 3 b.n) ++ [] := by simpa using h
  obtain ⟨s3, _⟩ := seg_eq h3
  refine ⟨h0, fun k hk => ?_⟩
  rcases (by omega : k = 0 ∨ k = 1 ∨ k = 2 ∨ k = 3) with rfl | rfl | rfl | rfl
  · exact s0
  · exact s1
  · exact s2
  · exact s3
theorem mem_ways {a : Gs.St} {c : List Nat} {x k n g : Nat} : g ∈ ways a c x k n ↔ ∃ y, y < n ∧ y ≠ x ∧ way a x y = k ∧ c.getD y 0 = g := by
  unfold ways
  simp only [List.mem_map, List.mem_filter, List.mem_range, Bool.and_eq_true, decide_eq_true_eq]
  constructor
  · rintro ⟨y, ⟨h1, h2, h3⟩, h4⟩; exact ⟨y, h1, h2, h3, h4⟩
  · rintro ⟨y, h1, h2, h3, h4⟩; exact ⟨y, ⟨h1, h2, h3⟩, h4⟩
theorem way_lt (a : Gs.St) (x y : Nat) : way a x y < 4 := by unfold way; cases a.r y x <;> cases a.r x y <;> decide
theorem way_bits {a b : Gs.St} {x y x' y' : Nat} (h : way a x x' = way b y y') : a.r x x' = b.r y y' ∧ a.r x' x = b.r y' y := by
  unfold way at h
  cases h1 : a.r x' x <;> cases h2 : a.r x x' <;> cases h3 : b.r y' y <;> cases h4 : b.r y y' <;> simp [h1, h2, h3, h4] at h ⊢
/-- Elements of one colour are alike. -/
theorem first_eq {a b : Gs.St} {r x y : Nat} (hx : x < a.n) (hy : y < b.n) (h : cz a b r x = cz a b r (a.n + y)) : a.s x = b.s y ∧ a.r x x = b.r y y := by
  have h0 := cz_zero (show x < a.n + b.n by omega) (show a.n + y < a.n + b.n by omega) r h
  rw [cz_iff (by omega) (by omega)] at h0
  simp only [dsc2] at h0
  rw [if_pos hx, if_neg (by omega), Nat.add_sub_cancel_left] at h0
  unfold first at h0
  cases h1 : a.s x <;> cases h2 : a.r x x <;> cases h3 : b.s y <;> cases h4 : b.r y y <;> simp [h1, h2, h3, h4] at h0 ⊢
theorem descr_same {a b : Gs.St} {r x y : Nat} (hst : Still a b r) (hx : x < a.n) (hy : y < b.n) (h : cz a b r x = cz a b r (a.n + y)) : descr a ((after [a, b] r).take a.n) x = descr b (((after [a, b] r).drop a.n).take b.n) y := by
  have h1 := hst x (a.n + y) (by omega) (by omega) h
  rw [cz_iff (by omega) (by omega)] at h1
  simp only [dsc2] at h1
  rw [if_pos hx, if_neg (by omega), Nat.add_sub_cancel_left] at h1
  exact h1
/-- To each other element of the one there is one of the other in the same way. -/
theorem forth {a b : Gs.St} {r x y : Nat} (hst : Still a b r) (hx : x < a.n) (hy : y < b.n) (h : cz a b r x = cz a b r (a.n + y)) {x' : Nat} (hx' : x' < a.n) :
    ∃ y', y' < b.n ∧ (x' = x ↔ y' = y) ∧ a.r x x' = b.r y y' ∧ a.r x' x = b.r y' y ∧ cz a b r x' = cz a b r (a.n + y') := by
  by_cases e : x' = x
  · subst e
    obtain ⟨_, h2⟩ := first_eq hx hy h
    exact ⟨y, hy, by simp, h2, h2, h⟩
  · obtain ⟨_, hp⟩ := descr_parts (descr_same hst hx hy h)
    have hk := hp (way a x x') (way_lt a x x')
    have hm : cz a b r x' ∈ ways a ((after [a, b] r).take a.n) x (way a x x') a.n := mem_ways.2 ⟨x', hx', e, rfl, by rw [getD_take hx']; rfl⟩
    rw [← mem_sortL, hk, mem_sortL] at hm
    obtain ⟨y', h1, h2, h3, h4⟩ := mem_ways.1 hm
    rw [getD_dt h1] at h4
    obtain ⟨b1, b2⟩ := way_bits h3.symm
    exact ⟨y', h1, ⟨fun h => absurd h e, fun h => absurd h h2⟩, b1, b2, h4.symm⟩
theorem back {a b : Gs.St} {r x y : Nat} (hst : Still a b r) (hx : x < a.n) (hy : y < b.n) (h : cz a b r x = cz a b r (a.n + y)) {y' : Nat} (hy' : y' < b.n) :
    ∃ x', x' < a.n ∧ (x' = x ↔ y' = y) ∧ a.r x x' = b.r y y' ∧ a.r x' x = b.r y' y ∧ cz a b r x' = cz a b r (a.n + y') := by
  by_cases e : y' = y
  · subst e
    obtain ⟨_, h2⟩ := first_eq hx hy h
    exact ⟨x, hx, by simp, h2, h2, h⟩
  · obtain ⟨_, hp⟩ := descr_parts (descr_same hst hx hy h)
    have hk := hp (way b y y') (way_lt b y y')
    have hm : cz a b r (a.n + y') ∈ ways b (((after [a, b] r).drop a.n).take b.n) y (way b y y') b.n := mem_ways.2 ⟨y', hy', e, rfl, by rw [getD_dt hy']; rfl⟩
    rw [← mem_sortL, ← hk, mem_sortL] at hm
    obtain ⟨x', h1, h2, h3, h4⟩ := mem_ways.1 hm
    rw [getD_take h1] at h4
    obtain ⟨b1, b2⟩ := way_bits h3
    exact ⟨x', h1, ⟨fun h => absurd h h2, fun h => absurd h e⟩, b1, b2, h4⟩
/-- As many elements of each colour in both. -/
def Even (a b : Gs.St) (r : Nat) : Prop := sortL ((after [a, b] r).take a.n) = sortL ((after [a, b] r).drop a.n)
theorem even_forth {a b : Gs.St} {r : Nat} (h : Even a b r) {x : Nat} (hx : x < a.n) : ∃ y, y < b.n ∧ cz a b r x = cz a b r (a.n + y) := by
  have hl : (after [a, b] r).length = a.n + b.n := by rw [after_len]; simp [many]
  have hm : cz a b r x ∈ (after [a, b] r).take a.n := by
    rw [List.mem_iff_getElem?]
    refine ⟨x, ?_⟩
    rw [List.getElem?_take, if_pos hx, List.getElem?_eq_getElem (by omega)]
    unfold cz
    rw [List.getD_eq_getElem?_getD, List.getElem?_eq_getElem (by omega)]
    rfl
  rw [← mem_sortL, h, mem_sortL, List.mem_iff_getElem?] at hm
  obtain ⟨y, hy⟩ := hm
  rw [List.getElem?_drop] at hy
  have hlt : a.n + y < (after [a, b] r).length := (List.getElem?_eq_some_iff.1 hy).1
  refine ⟨y, by omega, ?_⟩
  show _ = (after [a, b] r).getD (a.n + y) 0
  rw [List.getD_eq_getElem?_getD, hy]
  rfl
theorem even_back {a b : Gs.St} {r : Nat} (h : Even a b r) {y : Nat} (hy : y < b.n) : ∃ x, x < a.n ∧ cz a b r x = cz a b r (a.n + y) := by
  have hl : (after [a, b] r).length = a.n + b.n := by rw [after_len]; simp [many]
  have hm : cz a b r (a.n + y) ∈ (after [a, b] r).drop a.n := by
    rw [List.mem_iff_getElem?]
    refine ⟨y, ?_⟩
    rw [List.getElem?_drop, List.getElem?_eq_getElem (by omega)]
    unfold cz
    rw [List.getD_eq_getElem?_getD, List.getElem?_eq_getElem (by omega)]
    rfl
  rw [← mem_sortL, ← h, mem_sortL, List.mem_iff_getElem?] at hm
  obtain ⟨x, hx⟩ := hm
  rw [List.getElem?_take] at hx
  split at hx
  · rename_i hlt
    refine ⟨x, hlt, ?_⟩
    show (after [a, b] r).getD x 0 = _
    rw [List.getD_eq_getElem?_getD, hx]
    rfl
  · cases hx
/-- Two pebbles lie in the same way by colours. -/
structure Inv (a b : Gs.St) (r : Nat) (p q p' q' : Int) : Prop where
  one : (p < 0 ∧ q < 0) ∨ ∃ x y : Nat, p = x ∧ q = y ∧ x < a.n ∧ y < b.n ∧ cz a b r x = cz a b r (a.n + y)
  two : (p' < 0 ∧ q' < 0) ∨ ∃ x y : Nat, p' = x ∧ q' = y ∧ x < a.n ∧ y < b.n ∧ cz a b r x = cz a b r (a.n + y)
  rel : ∀ x y x' y' : Nat, p = x → q = y → p' = x' → q' = y' → (x = x' ↔ y = y') ∧ a.r x x' = b.r y y' ∧ a.r x' x = b.r y' y
theorem Inv.same {a b : Gs.St} {r : Nat} {p q p' q' : Int} (h : Inv a b r p q p' q') : Gs.same a (layN [p, p']) b (layN [q, q']) = true := by
  rcases h.one with ⟨h1, h2⟩ | ⟨x, y, rfl, rfl, hx, hy, hc⟩
  · rcases h.two with ⟨h3, h4⟩ | ⟨x', y', rfl, rfl, hx', hy', hc'⟩
    · rw [layN_cons, if_neg (by omega), layN_cons, if_neg (by omega), layN_cons, if_neg (by omega), layN_cons, if_neg (by omega)]
      rfl
    · obtain ⟨e1, e2⟩ := first_eq hx' hy' hc'
      rw [layN_cons, if_neg (by omega), layN_cons, if_pos (by omega), layN_cons, if_neg (by omega), layN_cons, if_pos (by omega)]
      simp [layN, Gs.same, Gs.still, e1, e2]
  · obtain ⟨f1, f2⟩ := first_eq hx hy hc
    rcases h.two with ⟨h3, h4⟩ | ⟨x', y', rfl, rfl, hx', hy', hc'⟩
    · rw [layN_cons, if_pos (by omega), layN_cons, if_neg (by omega), layN_cons, if_pos (by omega), layN_cons, if_neg (by omega)]
      simp [layN, Gs.same, Gs.still, f1, f2]
    · obtain ⟨e1, e2⟩ := first_eq hx' hy' hc'
      obtain ⟨g1, g2, g3⟩ := h.rel x y x' y' rfl rfl rfl rfl
      rw [layN_cons, if_pos (by omega), layN_cons, if_pos (by omega), layN_cons, if_pos (by omega), layN_cons, if_pos (by omega)]
      have hd : decide (x = x') = decide (y = y') := decide_eq_decide.2 g1
      simp [layN, Gs.same, Gs.still, List.range_succ, f1, f2, e1, e2, g2, g3, hd]
theorem Inv.swap {a b : Gs.St} {r : Nat} {p q p' q' : Int} (h : Inv a b r p q p' q') : Inv a b r p' q' p q :=
  ⟨h.two, h.one, fun x y x' y' h1 h2 h3 h4 => by
    obtain ⟨g1, g2, g3⟩ := h.rel x' y' x y h3 h4 h1 h2
    exact ⟨⟨fun e => (g1.1 e.symm).symm, fun e => (g1.2 e.symm).symm⟩, g3, g2⟩⟩
theorem Inv.put {a b : Gs.St} {r : Nat} {p q p' q' : Int} (hst : Still a b r) (hev : Even a b r) (h : Inv a b r p q p' q') :
    (∀ x, x < a.n → ∃ y, y < b.n ∧ Inv a b r (x : Int) (y : Int) p' q') ∧ ∀ y, y < b.n → ∃ x, x < a.n ∧ Inv a b r (x : Int) (y : Int) p' q' := by
  rcases h.two with ⟨h3, h4⟩ | ⟨x', y', rfl, rfl, hx', hy', hc'⟩
  · refine ⟨fun x hx => ?_, fun y hy => ?_⟩
    · obtain ⟨y, hy, hc⟩ := even_forth hev hx
      exact ⟨y, hy, .inr ⟨x, y, rfl, rfl, hx, hy, hc⟩, .inl ⟨h3, h4⟩, fun _ _ _ _ _ _ e _ => by omega⟩
    · obtain ⟨x, hx, hc⟩ := even_back hev hy
      exact ⟨x, hx, .inr ⟨x, y, rfl, rfl, hx, hy, hc⟩, .inl ⟨h3, h4⟩, fun _ _ _ _ _ _ e _ => by omega⟩
  · refine ⟨fun x hx => ?_, fun y hy => ?_⟩
    · obtain ⟨y, hy, g1, g2, g3, hc⟩ := forth hst hx' hy' hc' hx
      refine ⟨y, hy, .inr ⟨x, y, rfl, rfl, hx, hy, hc⟩, .inr ⟨x', y', rfl, rfl, hx', hy', hc'⟩, fun x1 y1 x2 y2 e1 e2 e3 e4 => ?_⟩
      obtain rfl : x = x1 := by omega
      obtain rfl : y = y1 := by omega
      obtain rfl : x' = x2 := by omega
      obtain rfl : y' = y2 := by omega
      exact ⟨g1, g3, g2⟩
    · obtain ⟨x, hx, g1, g2, g3, hc⟩ := back hst hx' hy' hc' hy
      refine ⟨x, hx, .inr ⟨x, y, rfl, rfl, hx, hy, hc⟩, .inr ⟨x', y', rfl, rfl, hx', hy', hc'⟩, fun x1 y1 x2 y2 e1 e2 e3 e4 => ?_⟩
      obtain rfl : x = x1 := by omega
      obtain rfl : y = y1 := by omega
      obtain rfl : x' = x2 := by omega
      obtain rfl : y' = y2 := by omega
      exact ⟨g1, g3, g2⟩
theorem Inv.wins {a b : Gs.St} {r : Nat} (hst : Still a b r) (hev : Even a b r) : ∀ (t : Nat) {p q p' q' : Int}, Inv a b r p q p' q' → pwB a b a.n b.n t [p, p'] [q, q'] = true
  | 0, p, q, p', q', h => h.same
  | t + 1, p, q, p', q', h => by
    unfold pwB
    rw [Bool.and_eq_true, List.all_eq_true]
    refine ⟨h.same, fun i hi => ?_⟩
    have hi : i < 2 := List.mem_range.1 hi
    rw [ansF_iff]
    rcases (by omega : i = 0 ∨ i = 1) with rfl | rfl
    · obtain ⟨h1, h2⟩ := h.put hst hev
      refine ⟨fun x hx => ?_, fun y hy => ?_⟩
      · obtain ⟨y, hy, hi⟩ := h1 x hx
        exact ⟨y, hy, Inv.wins hst hev t hi⟩
      · obtain ⟨x, hx, hi⟩ := h2 y hy
        exact ⟨x, hx, Inv.wins hst hev t hi⟩
    · obtain ⟨h1, h2⟩ := h.swap.put hst hev
      refine ⟨fun x hx => ?_, fun y hy => ?_⟩
      · obtain ⟨y, hy, hi⟩ := h1 x hx
        exact ⟨y, hy, Inv.wins hst hev t hi.swap⟩
      · obtain ⟨x, hx, hi⟩ := h2 y hy
        exact ⟨x, hx, Inv.wins hst hev t hi.swap⟩
/-- Structures that no round of colours tells apart are not told apart with two pebbles. -/
theorem pebbles_two {a b : Gs.St} (h : ∀ r, r ≤ a.n + b.n → Even a b r) (t : Nat) : pwB a b a.n b.n t [-1, -1] [-1, -1] = true := by
  obtain ⟨r, hr, hst⟩ := still_some a b
  exact Inv.wins hst (h r hr) t ⟨.inl ⟨by omega, by omega⟩, .inl ⟨by omega, by omega⟩, fun _ _ _ _ e _ _ _ => by omega⟩
end Col
end Go.Proofs.YtofmagiahmmmgaaGreatDoor

namespace Go.Proofs.YtofmagiahmmmgaaGreatDoor
open Go.RowKit
set_option linter.unusedVariables false
set_option maxRecDepth 100000
/-- Structures with the same colours: the first player never wins with two pebbles. -/
theorem tw_neg {a b : Gs.St} {n m : Nat} (ha : a.n = n) (hb : b.n = m) (hm : 0 < m) (h : scB a b = true) : twV a b n m 2 = -1 := by
  have he : ∀ r, r ≤ a.n + b.n → Col.Even a b r := fun r hr => by
    have := evTo_all h r (by omega)
    unfold evB at this
    show Col.sortL _ = Col.sortL _
    exact of_decide_eq_true this
  have hp := Col.pebbles_two he
  rw [ha, hb] at hp
  have hr : Rdy n m [-1, -1] [-1, -1] := ⟨rfl, fun x hx => by simp at hx; omega, fun x hx => by simp at hx; omega, fun j => by rcases j with _ | _ | j <;> simp⟩
  have hs : stP (n * m + 1) m [-1, -1] [-1, -1] = 0 := by
    simp [stP, dig]
  refine twAt_neg (fun t => ?_) _ _
  have h1 := lev_at (a := a) (b := b) hm t hr
  rw [hs, hp t] at h1
  exact h1
theorem tw_bounds {a b : Gs.St} {n m : Nat} (h8 : n ≤ 8) (g8 : m ≤ 8) : -1 ≤ twV a b n m 2 ∧ twV a b n m 2 ≤ 1000000 := by
  have h := twAt_le (n := n) (m := m) (k := 2) (F := fitL a b n m 2) ((fitL a b n m 2).length + 1) 0
  have h2 := pow_le (pairs_le h8 g8) (show 2 ≤ 3 by omega)
  have h3 : (fitL a b n m 2).length = (n * m + 1) ^ 2 := fitL_len _ _ _ _ _
  unfold twV
  omega
/-- All that the law's walk calls. -/
structure GmF (n : Nat) (S R : ByteArray) (m : Nat) (T U : ByteArray) (k : Nat) (F G : ByteArray) (wn sc : Bool) (won : Nat) (tv : Int) (sf : Option (ByteArray × Nat)) : Prop where
  se : ∀ w, Calls Tryz.prog 8 #[strV n S R, strV m T U] w fun e w' => e = .returned (senV sf) ∧ Below w.heap.size w w'
  tw : ∀ w, Calls Tryz.prog 9 #[strV n S R, strV m T U, .int .i64 2] w fun e w' => e = .returned (.int .i64 tv) ∧ Below w.heap.size w w'
  wr : ∀ w va vb, NumsAt w va [] → NumsAt w vb [] → Calls Tryz.prog 10 #[strV n S R, va, strV m T U, vb] w fun e w' => e = .returned (.int .i64 (won : Int)) ∧ Below w.heap.size w w'
  co : ∀ w, Calls Tryz.prog 11 #[strV n S R, strV m T U] w fun e w' => e = .returned (.bool sc) ∧ Below w.heap.size w w'
  fa : ∀ w, Calls Tryz.prog 12 #[strV n S R] w fun e w' => e = .returned (.string F) ∧ Below w.heap.size w w'
  fb : ∀ w, Calls Tryz.prog 12 #[strV m T U] w fun e w' => e = .returned (.string G) ∧ Below w.heap.size w w'
  fz : F.size ≤ 73 ∧ G.size ≤ 73
  no : (10 : UInt8) ∉ F.data.toList ∧ (10 : UInt8) ∉ G.data.toList
  l1 : wn = decide ((k : Int) ≤ (won : Int))
  l2 : ∀ p, sf = some p → (p.2 : Int) = (won : Int) + 1 ∧ p.1.size ≤ 4000 ∧ p.2 ≤ 3
  l3 : sc = true → tv < 0
  wb : won ≤ 3
  tb : -1 ≤ tv ∧ tv ≤ 1000000
  run : ∀ w, Tab w → Steps w desk0 (gamesLines F G (itoS (k : Int))) (gamesAns (truthB wn) (itoS (won : Int)) (pbAns tv) (truthB sc) (tellAns sf))
theorem gm_ok (n : Nat) (S R : ByteArray) (m : Nat) (T U : ByteArray) (k : Nat) (hv : validB n S R = true) (hu : validB m T U = true) (hk : k ≤ 3) :
    ∃ (F G : ByteArray) (sc : Bool) (won : Nat) (tv : Int) (sf : Option (ByteArray × Nat)), GmF n S R m T U k F G (Gs.wins k (stOf n S R) [] (stOf m T U) []) sc won tv sf := by
  obtain ⟨n1, n8, hS, hR, _, _⟩ := valid_is hv
  obtain ⟨m1, m8, hT, hU, _, _⟩ := valid_is hu
  have htb := tw_bounds (a := stOf n S R) (b := stOf m T U) n8 m8
  refine ⟨fmtS S R, fmtS T U, scB (stOf n S R) (stOf m T U), wonN (stOf n S R) (stOf m T U), twV (stOf n S R) (stOf m T U) n m 2, senF (stOf n S R) (stOf m T U), ⟨fun w => SentenceFor_any n S R m T U w hv hu, fun w => TurnsToWin_any n m 2 S R T U hv hu (by omega) (by omega) w, fun w va vb h1 h2 => ?_, fun w => SameColours_any n S R m T U hv hu w,
    fun w => FormatStructure_any n S R hv w, fun w => FormatStructure_any m T U hu w, ⟨fmt_size hv, fmt_size hu⟩, ⟨fmt_no hv, fmt_no hu⟩, ?_, ?_, ?_, wonN_le _ _, htb, ?_⟩⟩
  · rw [wonN_is]
    exact WonRounds_any n S R m T U va vb w hv hu h1 h2
  · rw [wonN_is]
    exact won_iff _ _ 4 k (by omega)
  · intro p hp
    have h := senF_won hp
    rw [wonN_is]
    exact ⟨h.1, senF_size n1 n8 m1 m8 hp, h.2.2⟩
  · intro h
    rw [tw_neg (n := n) (m := m) rfl rfl (by omega) h]
    decide
  · intro w0 ht
    have e1 : (⟨#[108, 101, 102, 116, 32]⟩ : ByteArray) = ⟨#[108, 101, 102, 116]⟩ ++ ⟨#[32]⟩ := ByteArray.ext (Array.toList_inj.1 rfl)
    have e2 : (⟨#[114, 105, 103, 104, 116, 32]⟩ : ByteArray) = ⟨#[114, 105, 103, 104, 116]⟩ ++ ⟨#[32]⟩ := ByteArray.ext (Array.toList_inj.1 rfl)
    have e3 : (⟨#[115, 97, 109, 101, 32]⟩ : ByteArray) = ⟨#[115, 97, 109, 101]⟩ ++ ⟨#[32]⟩ := ByteArray.ext (Array.toList_inj.1 rfl)
    have e4 : (⟨#[112, 101, 98, 98, 108, 101, 115, 32, 50]⟩ : ByteArray) = ⟨#[112, 101, 98, 98, 108, 101, 115]⟩ ++ ⟨#[32]⟩ ++ itoS ((2 : Nat) : Int) := by
      rw [itoS_digit (by omega)]
      exact ByteArray.ext (Array.toList_inj.1 rfl)
    unfold gamesLines gamesAns
    rw [e1, e2, e3, e4]
    have R1 := run_left w0 desk0 n S R hv
    have R2 := run_right w0 { desk0 with n := (n : Int), S := S, R := R } m T U hu
    obtain ⟨d2, hd2⟩ : ∃ d2 : DS, { { desk0 with n := (n : Int), S := S, R := R } with m := (m : Int), T := T, U := U } = d2 := ⟨_, rfl⟩
    rw [hd2] at R2
    have n2 : d2.n = (n : Int) := by rw [← hd2]
    have m2 : d2.m = (m : Int) := by rw [← hd2]
    have S2 : d2.S = S := by rw [← hd2]
    have Q2 : d2.R = R := by rw [← hd2]
    have T2 : d2.T = T := by rw [← hd2]
    have U2 : d2.U = U := by rw [← hd2]
    have v2 : validB n d2.S d2.R = true := by rw [S2, Q2]; exact hv
    have u2 : validB m d2.T d2.U = true := by rw [T2, U2]; exact hu
    have R3 := run_same w0 ht d2 k (by omega) _ (asked_same w0 d2 n m k n2 m2 hk v2 u2)
    have R4 := run_plain w0 _ (by decide) d2 d2 _ (plain_rounds w0 d2 _ (told_rounds w0 ht d2 n m n2 m2 v2 u2))
    have R5 := run_pebbles w0 ht d2 2 (by omega) _ (asked_pebbles w0 ht d2 n m 2 _ n2 m2 (by omega) (by omega) v2 u2 rfl (by rw [S2, Q2, T2, U2]; exact htb.1) (by rw [S2, Q2, T2, U2]; exact htb.2))
    have R6 := run_plain w0 _ (by decide) d2 d2 _ (plain_coloured w0 d2 _ (told_coloured w0 d2 n m n2 m2 v2 u2))
    have R7 : ∃ d3 : DS, RunOK w0 ⟨#[116, 101, 108, 108]⟩ d2 d3 (tellAns (senF (stOf n S R) (stOf m T U))) := by
      cases hf : senF (stOf n S R) (stOf m T U) with
      | none => exact ⟨_, run_plain w0 _ (by decide) d2 d2 _ (plain_tell_no w0 ht d2 n m n2 m2 v2 u2 (by rw [S2, Q2, T2, U2]; exact hf))⟩
      | some p =>
        obtain ⟨f, K⟩ := p
        have h1 := senF_won hf
        have h2 := senF_size n1 n8 m1 m8 hf
        exact ⟨_, run_plain w0 _ (by decide) d2 _ _ (plain_tell_yes w0 ht d2 n m f K n2 m2 v2 u2 (by rw [S2, Q2, T2, U2]; exact hf) (by have : K ≤ 3 := h1.2.2; omega) h2)⟩
    obtain ⟨d3, R7⟩ := R7
    rw [S2, Q2, T2, U2] at R3 R4 R5 R6
    exact ⟨_, R1, _, R2, _, R3, _, R4, _, R5, _, R6, _, R7, trivial⟩
end Go.Proofs.YtofmagiahmmmgaaGreatDoor
