/- The walk of the law FnWordOf: it returns true. Condition: the bytes are readable. -/
import Derived.Test.YtjepegkbbbebkaaDoorLag
import Derived.Test.YtjepegkbbbebkaaDoorFm
import Derived.Test.YtjepegkbbbebkaaDoorWdOf
import Derived.Test.YtjepegkbbbebkaaDoorWdW
import Derived.Test.YtjepegkbbbebkaaDoorFmTrue
import Derived.Test.YtjepegkbbbebkaaDoorWdOfS
import Derived.Test.YtjepegkbbbebkaaDoorHolds
import Derived.Test.YtjepegkbbbebkaaDoorWith
import Derived.Test.YtjepegkbbbebkaaDoorRd
import Derived.Lib.ConvBytes
import Derived.Test.YtjepegkbbbebkaaDoorDrawS2
import Derived.Test.YtjepegkbbbebkaaDoorWord
import Derived.Test.YtjepegkbbbebkaaDoorPartS
import Derived.Test.YtjepegkbbbebkaaDoorWordStr
/- Plainly: a formula is true alike in structures of the same shape. Conditions: those that each states. -/
namespace Go.Proofs.YtjepegkbbbebkaaDoor
set_option linter.unusedVariables false

theorem cnt_lenI (f : Nat → Bool) : ∀ n, Fm.cnt f n = ((List.range n).filter f).length
  | 0 => rfl
  | n + 1 => by
    rw [Fm.cnt, cnt_lenI f n, List.range_succ, List.filter_append, List.length_append]
    cases h : f n
    · simp [h]
    · simp [h]
theorem range_mapI {p : List Nat} {n : Nat} (hl : p.length = n) : (List.range n).map (fun i => p.getD i 0) = p := by
  apply Gs.ext_gd
  · simp [hl]
  · intro i hi
    rw [List.length_map, List.length_range] at hi
    simp [hi]
theorem turns_cntI {p : List Nat} {n : Nat} (hd : p.Nodup) (hl : p.length = n) (hn : ∀ x ∈ p, x < n) {f g : Nat → Bool} (h : ∀ x, x < n → f x = g (p.getD x 0)) : Fm.cnt f n = Fm.cnt g n := by
  rw [cnt_lenI, cnt_lenI]
  have e1 : ((List.range n).filter f).length = (p.filter g).length := by
    have : p.filter g = ((List.range n).filter f).map (fun i => p.getD i 0) := by
      conv => lhs; rw [← range_mapI hl]
      rw [List.filter_map]
      congr 1
      apply List.filter_congr
      intro x hx
      exact (h x (List.mem_range.1 hx)).symm
    rw [this, List.length_map]
  rw [e1]
  refine Nat.le_antisymm ?_ ?_
  · refine Gs.nodup_le (hd.filter _) (fun x hx => ?_)
    rw [List.mem_filter] at hx ⊢
    exact ⟨List.mem_range.2 (hn x hx.1), hx.2⟩
  · refine Gs.nodup_le (List.nodup_range.filter _) (fun x hx => ?_)
    rw [List.mem_filter] at hx ⊢
    exact ⟨Gs.nodup_all hd hl hn (List.mem_range.1 hx.1), hx.2⟩
theorem holds_iso {a b : Gs.St} {p : List Nat} (hp : Gs.Turns a b p) (hl : p.length = b.n) (hn : a.n = b.n) : ∀ (φ : Fm.T) (e : Fm.Env), (∀ v, e v < b.n) → Fm.holds b φ e = Fm.holds a φ (fun v => p.getD (e v) 0)
  | .lit b, e, _ => rfl
  | .set v, e, h => (hp.s _ (by rw [hl]; exact h v)).symm
  | .rel true v w, e, h => (hp.r _ _ (by rw [hl]; exact h v) (by rw [hl]; exact h w)).symm
  | .rel false v w, e, h => by
    simp only [Fm.holds]
    by_cases he : e v = e w
    · rw [decide_eq_true he, decide_eq_true (congrArg (fun z => p.getD z 0) he)]
    · rw [decide_eq_false he, decide_eq_false (fun h2 => he (Gs.gd_inj hp.nodup (by rw [hl]; exact h v) (by rw [hl]; exact h w) h2))]
  | .neg f, e, h => by simp only [Fm.holds]; rw [holds_iso hp hl hn f e h]
  | .bin true f g, e, h => by simp only [Fm.holds]; rw [holds_iso hp hl hn f e h, holds_iso hp hl hn g e h]
  | .bin false f g, e, h => by simp only [Fm.holds]; rw [holds_iso hp hl hn f e h, holds_iso hp hl hn g e h]
  | .qu q v f, e, h => by
    simp only [Fm.holds]
    rw [hn, turns_cntI hp.nodup hl (fun x hx => by rw [← hn]; exact hp.lt x hx) (f := fun x => Fm.holds b f (Fm.upd e v x)) (g := fun x => Fm.holds a f (Fm.upd (fun v => p.getD (e v) 0) v x)) (fun x hx => ?_)]
    have := holds_iso hp hl hn f (Fm.upd e v x) (fun u => by
      unfold Fm.upd
      split
      · exact hx
      · exact h u)
    rw [this]
    congr 1
    funext u
    unfold Fm.upd
    split <;> rfl
end Go.Proofs.YtjepegkbbbebkaaDoor
/- Plainly: the two sentences by which a structure is an order. No condition. -/
namespace Go.Proofs.YtjepegkbbbebkaaDoor
set_option linter.unusedVariables false

def phiIs : Fm.T := .bin false (.qu .all 0 (.neg (.rel true 0 0))) (.qu .all 0 (.qu .all 1 (.bin true (.rel false 0 1) (.bin true (.bin false (.rel true 0 1) (.neg (.rel true 1 0))) (.bin false (.rel true 1 0) (.neg (.rel true 0 1)))))))
def phiWay : Fm.T := .qu .all 0 (.qu .all 1 (.qu .all 2 (.bin true (.neg (.rel true 0 1)) (.bin true (.neg (.rel true 1 2)) (.rel true 0 2)))))
theorem cnt_full {f : Nat → Bool} : ∀ {n : Nat}, n ≤ Fm.cnt f n ↔ ∀ x, x < n → f x = true
  | 0 => ⟨fun _ x hx => absurd hx (Nat.not_lt_zero x), fun _ => Nat.le_refl _⟩
  | n + 1 => by
    have hle := Fm.cnt_le f n
    have ih := cnt_full (f := f) (n := n)
    unfold Fm.cnt
    cases hf : f n
    · constructor
      · intro h; simp at h; omega
      · intro h; have := h n (by omega); rw [hf] at this; cases this
    · constructor
      · intro h x hx
        simp at h
        by_cases e : x = n
        · rw [e]; exact hf
        · exact ih.1 h x (by omega)
      · intro h
        have := ih.2 (fun x hx => h x (by omega))
        simp; exact this
theorem holds_all {a : Gs.St} {v : Fin 4} {φ : Fm.T} {e : Fm.Env} : Fm.holds a (.qu .all v φ) e = true ↔ ∀ x, x < a.n → Fm.holds a φ (Fm.upd e v x) = true := by
  show decide (a.n ≤ _) = true ↔ _
  rw [decide_eq_true_iff]
  exact cnt_full
theorem is_iff {a : Gs.St} {e : Fm.Env} : Fm.holds a phiIs e = true ↔ (∀ x, x < a.n → a.r x x = false) ∧ ∀ x y, x < a.n → y < a.n → x = y ∨ (a.r x y = true ∧ a.r y x = false) ∨ (a.r y x = true ∧ a.r x y = false) := by
  unfold phiIs
  rw [show Fm.holds a (.bin false (.qu .all 0 (.neg (.rel true 0 0))) (.qu .all 0 (.qu .all 1 (.bin true (.rel false 0 1) (.bin true (.bin false (.rel true 0 1) (.neg (.rel true 1 0))) (.bin false (.rel true 1 0) (.neg (.rel true 0 1)))))))) e = (Fm.holds a (.qu .all 0 (.neg (.rel true 0 0))) e && Fm.holds a (.qu .all 0 (.qu .all 1 (.bin true (.rel false 0 1) (.bin true (.bin false (.rel true 0 1) (.neg (.rel true 1 0))) (.bin false (.rel true 1 0) (.neg (.rel true 0 1))))))) e) from rfl]
  rw [Bool.and_eq_true, holds_all, holds_all]
  refine and_congr ?_ ?_
  · refine forall_congr' fun x => forall_congr' fun hx => ?_
    show (!a.r x x) = true ↔ _
    simp
  · constructor
    · intro h x y hx hy
      have := (holds_all.1 (h x hx)) y hy
      have h2 : (decide (x = y) || ((a.r x y && !a.r y x) || (a.r y x && !a.r x y))) = true := this
      simpa using h2
    · intro h x hx
      refine holds_all.2 fun y hy => ?_
      show (decide (x = y) || ((a.r x y && !a.r y x) || (a.r y x && !a.r x y))) = true
      have := h x y hx hy
      simpa using this
theorem way_iff {a : Gs.St} {e : Fm.Env} : Fm.holds a phiWay e = true ↔ ∀ x y z, x < a.n → y < a.n → z < a.n → a.r x y = true → a.r y z = true → a.r x z = true := by
  unfold phiWay
  rw [holds_all]
  constructor
  · intro h x y z hx hy hz
    have := holds_all.1 (holds_all.1 (h x hx) y hy) z hz
    have h2 : (!a.r x y || (!a.r y z || a.r x z)) = true := this
    intro h3 h4
    rw [h3, h4] at h2
    simpa using h2
  · intro h x hx
    refine holds_all.2 fun y hy => holds_all.2 fun z hz => ?_
    show (!a.r x y || (!a.r y z || a.r x z)) = true
    have := h x y z hx hy hz
    cases h1 : a.r x y <;> cases h2 : a.r y z <;> simp_all
end Go.Proofs.YtjepegkbbbebkaaDoor
/- Plainly: the word of a strict linear order. Conditions: those that each states. -/
namespace Go.Proofs.YtjepegkbbbebkaaDoor
set_option linter.unusedVariables false

/-- A strict linear order of the first n numbers. -/
structure LinO (n : Nat) (R : ByteArray) : Prop where
  irr : ∀ x, x < n → relAt n R x x = false
  tot : ∀ x y, x < n → y < n → x = y ∨ (relAt n R x y = true ∧ relAt n R y x = false) ∨ (relAt n R y x = true ∧ relAt n R x y = false)
  tra : ∀ x y z, x < n → y < n → z < n → relAt n R x y = true → relAt n R y z = true → relAt n R x z = true
theorem lin_iff {n : Nat} {S R : ByteArray} {e : Fm.Env} : (Fm.holds (stOf n S R) phiIs e && Fm.holds (stOf n S R) phiWay e) = true ↔ LinO n R := by
  rw [Bool.and_eq_true, is_iff, way_iff]
  exact ⟨fun h => ⟨h.1.1, h.1.2, h.2⟩, fun h => ⟨⟨h.irr, h.tot⟩, h.tra⟩⟩
def preds (n : Nat) (R : ByteArray) (x : Nat) : List Nat := (List.range n).filter fun y => relAt n R y x
theorem cntR_len (n : Nat) (R : ByteArray) (x : Nat) : ∀ k, cntR n R x k = ((List.range k).filter fun y => relAt n R y x).length
  | 0 => rfl
  | k + 1 => by
    rw [cntR, cntR_len n R x k, List.range_succ, List.filter_append, List.length_append]
    cases h : relAt n R k x
    · simp [h]
    · simp [h]
theorem plc_len (n : Nat) (R : ByteArray) (x : Nat) : plc n R x = (preds n R x).length := cntR_len n R x n
theorem mem_preds {n : Nat} {R : ByteArray} {x y : Nat} : y ∈ preds n R x ↔ y < n ∧ relAt n R y x = true := by
  unfold preds; rw [List.mem_filter, List.mem_range]
theorem nodup_preds (n : Nat) (R : ByteArray) (x : Nat) : (preds n R x).Nodup := List.nodup_range.filter _
theorem cons_preds {n : Nat} {R : ByteArray} (h : LinO n R) {x : Nat} (hx : x < n) : (x :: preds n R x).Nodup :=
  List.nodup_cons.2 ⟨(fun hm => Bool.noConfusion ((h.irr x hx).symm.trans (mem_preds.1 hm).2)), nodup_preds n R x⟩
theorem plc_lt {n : Nat} {R : ByteArray} (h : LinO n R) {x : Nat} (hx : x < n) : plc n R x < n := by
  have := Gs.nodup_le (M := List.range n) (cons_preds h hx) (fun y hy => by
    rw [List.mem_range]
    rcases List.mem_cons.1 hy with rfl | hy
    · exact hx
    · exact (mem_preds.1 hy).1)
  rw [List.length_cons, List.length_range, ← plc_len] at this
  omega
theorem plc_mono {n : Nat} {R : ByteArray} (h : LinO n R) {x y : Nat} (hx : x < n) (hy : y < n) (hr : relAt n R x y = true) : plc n R x < plc n R y := by
  have := Gs.nodup_le (M := preds n R y) (cons_preds h hx) (fun z hz => by
    rcases List.mem_cons.1 hz with rfl | hz
    · exact mem_preds.2 ⟨hx, hr⟩
    · have := mem_preds.1 hz
      exact mem_preds.2 ⟨this.1, h.tra z x y this.1 hx hy this.2 hr⟩)
  rw [List.length_cons, ← plc_len, ← plc_len] at this
  omega
theorem plc_rel {n : Nat} {R : ByteArray} (h : LinO n R) {x y : Nat} (hx : x < n) (hy : y < n) : relAt n R x y = decide (plc n R x < plc n R y) := by
  rcases h.tot x y hx hy with rfl | ⟨h1, h2⟩ | ⟨h1, h2⟩
  · rw [h.irr x hx]; simp
  · rw [h1, decide_eq_true (plc_mono h hx hy h1)]
  · have := plc_mono h hy hx h1
    rw [h2, decide_eq_false (by omega)]
theorem plc_inj {n : Nat} {R : ByteArray} (h : LinO n R) {x y : Nat} (hx : x < n) (hy : y < n) (e : plc n R x = plc n R y) : x = y := by
  rcases h.tot x y hx hy with h1 | ⟨h1, _⟩ | ⟨h1, _⟩
  · exact h1
  · have := plc_mono h hx hy h1; omega
  · have := plc_mono h hy hx h1; omega
def letC (S : ByteArray) (x : Nat) : UInt8 := if oneAt S x then 120 else 121
theorem letC_ne (S : ByteArray) (x : Nat) : letC S x ≠ 0 := by unfold letC; split <;> decide
theorem fill_lin {n : Nat} {S R : ByteArray} (h : LinO n R) : ∀ x, x ≤ n → ∃ l, fillW n S R x = some l ∧ l.length = n ∧ (∀ y, y < x → l.getD (plc n R y) 0 = letC S y) ∧ ∀ k, k < n → (∀ y, y < x → plc n R y ≠ k) → l.getD k 0 = 0
  | 0, _ => ⟨_, rfl, by simp, fun y hy => absurd hy (Nat.not_lt_zero y), fun k hk _ => by simp [hk]⟩
  | x + 1, hx => by
    obtain ⟨l, h1, h2, h3, h4⟩ := fill_lin h x (by omega)
    have hp := plc_lt h (x := x) (by omega)
    have h0 := h4 _ hp (fun y hy e => by have := plc_inj h (by omega) (by omega) e; omega)
    refine ⟨l.set (plc n R x) (letC S x), ?_, by simp [h2], fun y hy => ?_, fun k hk hn => ?_⟩
    · rw [fill_step h1, if_pos ⟨hp, h0⟩]; rfl
    · by_cases e : y = x
      · subst e
        simp [h2, hp]
      · have hne : plc n R x ≠ plc n R y := fun e2 => e (plc_inj h (by omega) (by omega) e2.symm)
        rw [← h3 y (by omega)]
        simp [hne]
    · have hne : plc n R x ≠ k := hn x (by omega)
      have h5 := h4 k hk (fun y hy => hn y (by omega))
      rw [List.getD_eq_getElem?_getD] at h5 ⊢
      rw [List.getElem?_set_ne hne]
      exact h5
/-- The places as a list: it turns the word's structure into the order. -/
theorem lin_turns {n : Nat} {S R : ByteArray} (h : LinO n R) {l : List UInt8} (hl : l.length = n) (h3 : ∀ y, y < n → l.getD (plc n R y) 0 = letC S y) :
    Gs.Turns (stOf n (bitsOf (letB (txB l)) n) (gridOf ltB n)) (stOf n S R) ((List.range n).map (plc n R)) := by
  have gd : ∀ i, i < n → ((List.range n).map (plc n R)).getD i 0 = plc n R i := fun i hi => by simp [hi]
  have hlen : ((List.range n).map (plc n R)).length = n := by simp
  refine ⟨?_, fun x hx => ?_, fun i hi => ?_, fun i j hi hj => ?_⟩
  · rw [List.nodup_iff_pairwise_ne, List.pairwise_map]
    refine List.Pairwise.imp_of_mem ?_ (List.nodup_range (n := n))
    intro x y hx hy hne e
    exact hne (plc_inj h (List.mem_range.1 hx) (List.mem_range.1 hy) e)
  · obtain ⟨y, hy, rfl⟩ := List.mem_map.1 hx
    exact plc_lt h (List.mem_range.1 hy)
  · rw [hlen] at hi
    rw [gd i hi]
    show oneAt (bitsOf (letB (txB l)) n) (plc n R i) = oneAt S i
    rw [oneAt_bitsW _ _ _ (plc_lt h hi)]
    have e : (txB l).data.toList = l := by simp [txB]
    unfold letB
    rw [e, h3 i hi]
    unfold letC
    cases oneAt S i <;> rfl
  · rw [hlen] at hi hj
    rw [gd i hi, gd j hj]
    show relAt n (gridOf ltB n) (plc n R i) (plc n R j) = relAt n R i j
    rw [relAt_gridW _ _ _ _ (plc_lt h hi) (plc_lt h hj), plc_rel h hi hj]
    rfl
theorem word_shape_lin {n : Nat} {S R : ByteArray} (hv : validB n S R = true) (h : LinO n R) {l : List UInt8} (hl : l.length = n) (h3 : ∀ y, y < n → l.getD (plc n R y) 0 = letC S y) : shpB n S R l = true := by
  obtain ⟨h1, h8, _⟩ := valid_is hv
  have hs : (txB l).size = n := by show l.toArray.size = n; simp [hl]
  unfold shpB ssB
  rw [hs, hv, valid_bits h1 h8 _ _, Int.toNat_natCast]
  simp only [Bool.true_and, decide_true, Bool.not_eq_true', List.isEmpty_eq_false_iff]
  intro he
  have := Gs.shapes_mem.2 ⟨lin_turns h hl h3, show ((List.range n).map (plc n R)).length = n by simp⟩
  rw [he] at this
  cases this
/-- A strict linear order has a word. -/
theorem wo_of_lin {n : Nat} {S R : ByteArray} (hv : validB n S R = true) (h : LinO n R) : ∃ s, woB n S R = some s := by
  obtain ⟨l, h1, h2, h3, _⟩ := fill_lin (S := S) h n (Nat.le_refl _)
  rw [woB_some hv h1, if_pos (word_shape_lin hv h h2 h3)]
  exact ⟨_, rfl⟩
/-- What has a word is a strict linear order, and has the shape of the word. -/
theorem lin_of_wo {n : Nat} {S R s : ByteArray} (hv : validB n S R = true) (h : woB n S R = some s) : LinO n R ∧ s.size = n ∧ ssB s.size (bitsOf (letB s) s.size) (gridOf ltB s.size) n S R = true := by
  cases hf : fillW n S R n with
  | none => rw [woB_no hf] at h; cases h
  | some l =>
    rw [woB_some hv hf] at h
    by_cases hs : shpB n S R l = true
    · rw [if_pos hs] at h
      have e := Option.some.inj h
      subst e
      have hl := fill_len hf
      have hz : (txB l).size = n := by show l.toArray.size = n; simp [hl]
      have hs0 := hs
      unfold shpB at hs
      refine ⟨?_, hz, hs⟩
      rw [hz] at hs
      unfold ssB at hs
      rw [Bool.and_eq_true] at hs
      have hne : Gs.shapes (stOf n (bitsOf (letB (txB l)) n) (gridOf ltB n)) (stOf n S R) ≠ [] := by
        intro he
        have := hs.2
        rw [Int.toNat_natCast, he] at this
        cases this
      obtain ⟨o, ho⟩ := List.exists_mem_of_ne_nil _ hne
      obtain ⟨ht, hol⟩ := Gs.shapes_mem.1 ho
      have hol : o.length = n := hol
      have lt : ∀ i, i < n → o.getD i 0 < n := fun i hi => ht.lt _ (Gs.gd_mem (by rw [hol]; exact hi))
      have hr : ∀ i j, i < n → j < n → relAt n R i j = decide (o.getD i 0 < o.getD j 0) := fun i j hi hj => by
        have := ht.r i j (by rw [hol]; exact hi) (by rw [hol]; exact hj)
        have e2 : relAt n (gridOf ltB n) (o.getD i 0) (o.getD j 0) = relAt n R i j := this
        rw [← e2, relAt_gridW _ _ _ _ (lt i hi) (lt j hj)]
        rfl
      refine ⟨fun x hx => by rw [hr x x hx hx]; simp, fun x y hx hy => ?_, fun x y z hx hy hz h1 h2 => ?_⟩
      · rw [hr x y hx hy, hr y x hy hx]
        rcases Nat.lt_trichotomy (o.getD x 0) (o.getD y 0) with h1 | h1 | h1
        · exact .inr (.inl ⟨decide_eq_true h1, decide_eq_false (by omega)⟩)
        · exact .inl (Gs.gd_inj ht.nodup (by rw [hol]; exact hx) (by rw [hol]; exact hy) h1)
        · exact .inr (.inr ⟨decide_eq_true h1, decide_eq_false (by omega)⟩)
      · rw [hr x y hx hy, decide_eq_true_iff] at h1
        rw [hr y z hy hz, decide_eq_true_iff] at h2
        rw [hr x z hx hz, decide_eq_true (by omega)]
    · rw [if_neg hs] at h; cases h
end Go.Proofs.YtjepegkbbbebkaaDoor
/- The texts of the two sentences of orders. No condition. -/
namespace Go.Proofs.YtjepegkbbbebkaaDoor
set_option linter.unusedVariables false
set_option maxRecDepth 100000

def isT : ByteArray := ⟨#[38, 65, 97, 33, 69, 97, 97, 65, 97, 65, 98, 124, 61, 97, 98, 124, 38, 69, 97, 98, 33, 69, 98, 97, 38, 69, 98, 97, 33, 69, 97, 98]⟩
def wayT : ByteArray := ⟨#[65, 97, 65, 98, 65, 99, 124, 33, 69, 97, 98, 124, 33, 69, 98, 99, 69, 97, 99]⟩
theorem isT_read : readB isT = some phiIs := Fm.read_iff.2 ⟨rfl, by decide⟩
theorem wayT_read : readB wayT = some phiWay := Fm.read_iff.2 ⟨rfl, by decide⟩
theorem isT_hin (a : Gs.St) : hin isT a = (Fm.holds a phiIs (fun _ => 0), true) := by
  unfold hin; rw [isT_read]; exact if_pos (by decide)
theorem wayT_hin (a : Gs.St) : hin wayT a = (Fm.holds a phiWay (fun _ => 0), true) := by
  unfold hin; rw [wayT_read]; exact if_pos (by decide)
end Go.Proofs.YtjepegkbbbebkaaDoor
/- Plainly: the word of an order is a word. Condition: the structure is valid. -/
namespace Go.Proofs.YtjepegkbbbebkaaDoor
set_option linter.unusedVariables false

theorem wordB_of_wo {n : Nat} {S R s : ByteArray} (hv : validB n S R = true) (hL : LinO n R) (h : woB n S R = some s) : wordB s = true := by
  obtain ⟨l, h1, h2, h3, _⟩ := fill_lin (S := S) hL n (Nat.le_refl _)
  rw [woB_some hv h1, if_pos (word_shape_lin hv hL h2 h3)] at h
  obtain rfl := Option.some.inj h
  obtain ⟨n1, n8, _⟩ := valid_is hv
  have hs : (txB l).size = n := by show l.toArray.size = n; simp [h2]
  have hd : (txB l).data.toList = l := by simp [txB]
  unfold wordB
  rw [hd, hs, Bool.and_eq_true]
  refine ⟨inB_iff.2 (by omega), List.all_eq_true.2 fun c hc => ?_⟩
  obtain ⟨k, hk, rfl⟩ := List.mem_iff_getElem.1 hc
  have hm := Gs.nodup_all (n := n) (L := (List.range n).map (plc n R)) (by
    rw [List.nodup_iff_pairwise_ne, List.pairwise_map]
    refine List.Pairwise.imp_of_mem ?_ (List.nodup_range (n := n))
    intro x y hx hy hne e
    exact hne (plc_inj hL (List.mem_range.1 hx) (List.mem_range.1 hy) e)) (by simp) (fun x hx => by
    obtain ⟨y, hy, rfl⟩ := List.mem_map.1 hx
    exact plc_lt hL (List.mem_range.1 hy)) (show k < n by omega)
  obtain ⟨y, hy, e⟩ := List.mem_map.1 hm
  have h4 := h3 y (List.mem_range.1 hy)
  rw [e, List.getD_eq_getElem?_getD, List.getElem?_eq_getElem hk] at h4
  have h5 : l[k] = letC S y := h4
  rw [h5]
  unfold letC
  split <;> decide
end Go.Proofs.YtjepegkbbbebkaaDoor
/- The program's HoldsIn of a structure that is not valid: nothing is true. Conditions: the structure is not valid; the texts' lengths fit an integer. -/
namespace Go.Proofs.YtjepegkbbbebkaaDoor
open Go.RowKit
set_option linter.unusedVariables false
set_option maxRecDepth 100000

theorem implHoldsAtNo (f : ByteArray) (hf : f.size ≤ 9223372036854775807) (n : Int) (S R : ByteArray) (hS : S.size ≤ 9223372036854775807) (hR : R.size ≤ 9223372036854775807) (hv : validB n S R = false) (w : World) :
    Calls Tryd.prog 54 #[strV n S R, .string f, .slice none 0 0] w fun en w' => en = .returned (.tuple #[.bool false, .bool false]) ∧ Below w.heap.size w w' := by
  have HIS : Hid (∀ w, Calls Tryd.prog 45 #[strV n S R] w fun e w' => e = .returned (.bool false) ∧ Below w.heap.size w w') := fun w => by
    have := isStructure_any n S R w hS hR
    rw [hv] at this
    exact this
  have HB : Hid (SBlk (boxS w n S R) w.heap.size n S R ∧ Below w.heap.size w (boxS w n S R)) := ⟨boxS_SBlk _ _ _ _, boxS_below _ _ _ _⟩
  obtain ⟨W, hW⟩ : ∃ W, boxS w n S R = W := ⟨_, rfl⟩
  rw [hW] at HB
  unfold boxS at hW
  obtain ⟨x3, hx3⟩ : ∃ x, w.heap.size = x := ⟨_, rfl⟩
  rw [hx3] at HB
  have HX3 := Lib.hid hx3
  have HW := Lib.hid hW
  clear hW hx3 hv
  unfold strV at HIS
  unfold strV
  go_enter Tryd.func54, Tryd.ntmps54
  go_upto_region 1 with fail
  rw [HW.out, HX3.out]
  go_wp2_with fail
  refine (parseFormula_any f _ hf).mono ?_
  rintro en w2 ⟨hb2, hor⟩
  have HB2 : Hid (SBlk w2 x3 n S R ∧ Below w.heap.size w w2) := ⟨HB.out.1.below hb2 HB.out.1.cells.2.2.2.2.2.2, (by rw [HX3.out]; exact HB.out.2.trans (hb2.mono (by have := HB.out.2.size; rw [HX3.out] at this; exact this)))⟩
  clear hb2
  rcases hor with ⟨hr, rfl⟩ | ⟨φ, p, hr, rfl, ht⟩
  · clear hr
    go_wp2_with fail
    go_ret2
    exact ⟨rfl, HB2.out.2⟩
  · clear hr ht
    have s0 := HB2.out.1.cells.1
    have s1 := HB2.out.1.cells.2.1
    have s2 := HB2.out.1.cells.2.2.1
    unfold ptrV
    go_wp2_with fail
    refine (HIS.out _).mono ?_; rintro _ w3 ⟨rfl, hb3⟩
    have HB3 : Hid (Below w.heap.size w w3) := HB2.out.2.trans (hb3.mono HB2.out.2.size)
    clear s0 s1 s2 hb3
    go_wp2_with fail
    go_ret2
    exact ⟨rfl, HB3.out⟩
theorem implHoldsIn_no (f : ByteArray) (hf : f.size ≤ 9223372036854775807) (n : Int) (S R : ByteArray) (hS : S.size ≤ 9223372036854775807) (hR : R.size ≤ 9223372036854775807) (hv : validB n S R = false) (w : World) :
    Calls Tryd.prog 10 #[strV n S R, .string f] w fun en w' => en = .returned (.tuple #[.bool false, .bool false]) ∧ Below w.heap.size w w' := by
  have HC := Lib.hid (fun w => implHoldsAtNo f hf n S R hS hR hv w)
  unfold strV at HC
  unfold strV
  go_enter Tryd.func10, Tryd.ntmps10
  go_wp2_with fail
  refine (HC.out _).mono ?_; rintro _ w1 ⟨rfl, hb1⟩
  go_wp2_with fail
  go_ret2
  refine ⟨rfl, ?_⟩
  exact Below.trans ((Below.refl w.heap.size w).alloc (Nat.le_refl _) _) (hb1.mono (by simp))
end Go.Proofs.YtjepegkbbbebkaaDoor
/- The reference's draw of an order of the elements. Condition: the reader is one. -/
namespace Go.Proofs.YtjepegkbbbebkaaDoor
open Go.RowKit
set_option linter.unusedVariables false
set_option maxRecDepth 100000

theorem drew_alloc (w : World) (o : Obj) : (w.alloc o).drew = w.drew.alloc o := rfl
/-- What l1Shuffle leaves. -/
def Shuf (b K n : Nat) (w : World) (e : Ending) (w' : World) : Prop :=
  ∃ v L, e = .returned v ∧ L.length = n ∧ (∀ z ∈ L, z < n) ∧ NumsAt w' v L ∧ RdB w' b (K + n) ∧ w.grownBy w' (some b)
theorem nums_lo {w : World} {g cap k : Nat} {L : List Nat} (h1 : L.length ≤ cap) (h2 : cap ≤ maxLen) (hg : g < w.heap.size) (hc : ∀ j, j < L.length → w.cell? ⟨g, j, none⟩ = some (.int .i64 ((L.getD j 0 : Nat) : Int))) (hk : k ≤ L.length) : NumsAt w (.slice (some ⟨g, 0, none⟩) k cap) (L.take k) := by
  have hl : (L.take k).length = k := by rw [List.length_take]; omega
  refine .inr ⟨g, 0, cap, by rw [hl], by omega, h2, hg, fun j hj => ?_⟩
  rw [hl] at hj
  rw [Nat.zero_add, hc j (by omega)]
  have : (L.take k).getD j 0 = L.getD j 0 := by simp [hj]
  rw [this]
theorem nums_hi {w : World} {g cap k : Nat} {L : List Nat} (h1 : L.length ≤ cap) (h2 : cap ≤ maxLen) (hg : g < w.heap.size) (hc : ∀ j, j < L.length → w.cell? ⟨g, j, none⟩ = some (.int .i64 ((L.getD j 0 : Nat) : Int))) (hk : k ≤ L.length) : NumsAt w (.slice (some ⟨g, k, none⟩) (L.length - k) (cap - k)) (L.drop k) := by
  refine .inr ⟨g, k, cap - k, by rw [List.length_drop], by rw [List.length_drop]; omega, by omega, hg, fun j hj => ?_⟩
  rw [List.length_drop] at hj
  rw [hc (k + j) (by omega)]
  have : (L.drop k).getD j 0 = L.getD (k + j) 0 := by simp [List.getElem?_drop]
  rw [this]
theorem nums_hi0 {w : World} {g : Nat} (hg : g < w.heap.size) : NumsAt w (.slice (some ⟨g, 0, none⟩) 0 0) [] := .inr ⟨g, 0, 0, rfl, by simp, by decide, hg, fun j hj => absurd hj (Nat.not_lt_zero _)⟩
set_option maxHeartbeats 4000000 in
theorem l1Shuffle_any (w : World) (b K n : Nat) (h : RdB w b K) (hk : K < 1000000000000) (hn : n ≤ 8) :
    Calls Tryd.prog 41 #[.pointer (some ⟨b, 0, none⟩), .int .i64 (n : Int)] w (Shuf b K n w) := by
  have H := Lib.hid h
  have hbw := h.block
  have HBW := Lib.hid hbw
  clear h hbw
  have H0 : Hid (Own w.heap.size (w.alloc (.cells #[] 3)) (.slice (some ⟨w.heap.size, 0, none⟩) 0 0) []) := Own.lit0 _ w (Nat.le_refl _)
  go_enter Tryd.func41, Tryd.ntmps41
  go_wp2_with fail
  go_loopw [5, 6] (fun p q wr => ∃ i : Nat, i ≤ n ∧ q = .int .i64 (i : Int) ∧ ∃ L : List Nat, Hid (L.length = i ∧ (∀ z ∈ L, z < n) ∧ Own w.heap.size wr p L ∧ RdB wr b (K + i) ∧ w.grownBy wr (some b))) (fun _ q _ => n - (intOf q).toNat)
  case atStart => exact ⟨0, by omega, rfl, [], rfl, (fun z hz => by cases hz), H0.out, H.out.grown (grown_alloc w _), (grown_alloc w _).but _⟩
  case round =>
    clear H0
    obtain ⟨i, hi, rfl, L, HL⟩ := hrel
    by_cases hlt : i < n
    · have hltI : (i : Int) < (n : Int) := by omega
      obtain ⟨g, cap, rfl, hBg, hg, hc1, hc2, hc⟩ := HL.out.2.2.1.cells
      have hll : L.length = i := HL.out.1
      have HLL := Lib.hid hll
      rw [hll]
      rw [hll] at hc1
      have HC := Lib.hid hc
      clear hc hll
      unfold maxLen at hc2
      go_wp2_with fail
      refine (pickB _ b (K + i) _ HL.out.2.2.2.1 (by omega) (by omega) (by omega)).mono ?_; rintro e w4 ⟨kz, rfl, k0, k1, hr, hgr⟩
      obtain ⟨k, rfl⟩ := Int.eq_ofNat_of_zero_le k0
      have hki : k ≤ i := by omega
      have HR4 := Lib.hid hr
      have HG4 := Lib.hid (HL.out.2.2.2.2.trans hgr)
      have hgb : g ≠ b := by have := HBW.out; omega
      have HG := Lib.hid (show g < w4.heap.size from Nat.lt_of_lt_of_le hg hgr.size)
      have HC4 : Hid (∀ j, j < L.length → w4.cell? ⟨g, j, none⟩ = some (.int .i64 ((L.getD j 0 : Nat) : Int))) := fun j hj => hgr.cell (HC.out j hj) (by intro e; injection e with e; exact hgb e)
      clear hr hgr k0 k1
      have hcm : cap ≤ maxLen := hc2
      have HNT : Hid (NumsAt w4 (.slice (some ⟨g, 0, none⟩) k cap) (L.take k)) := nums_lo (by rw [HLL.out]; exact hc1) hcm HG.out HC4.out (by rw [HLL.out]; exact hki)
      have HL1 : Hid (Hid (([] ++ L.take k).length + [i].length ≤ 2000000)) := by have := HLL.out; show _ ≤ _; simp; omega
      have HL2 : Hid (Hid (([] ++ L.take k ++ [i]).length + (L.drop k).length ≤ 2000000)) := by have := HLL.out; show _ ≤ _; simp; omega
      have HL0 : Hid (Hid (([] : List Nat).length + (L.take k).length ≤ 2000000)) := by have := HLL.out; show _ ≤ _; simp; omega
      have HFIN : Hid (([] ++ L.take k ++ [i] ++ L.drop k).length = i + 1 ∧ ∀ z ∈ [] ++ L.take k ++ [i] ++ L.drop k, z < n) := by
        refine ⟨by have := HLL.out; simp; omega, fun z hz => ?_⟩
        simp only [List.nil_append, List.mem_append, List.mem_singleton] at hz
        rcases hz with (hz | hz) | hz
        · exact HL.out.2.1 z (List.mem_of_mem_take hz)
        · omega
        · exact HL.out.2.1 z (List.mem_of_mem_drop hz)
      have s1 : (0 : Int) ≤ (k : Int) := by omega
      have s2 : (k : Int) ≤ (cap : Int) := by omega
      have s3 : (k : Int) ≤ (i : Int) := by omega
      have s4 : k ≤ cap := by omega
      have hwL := HG4.out.size
      by_cases hck : cap = k
      · have hik : i = k := by omega
        have HND : Hid (NumsAt w4 (.slice (some ⟨g, 0, none⟩) 0 0) (L.drop k)) := by rw [List.drop_eq_nil_of_le (by rw [HLL.out]; omega)]; exact nums_hi0 HG.out
        subst hik
        have hck2 : i = cap := hck.symm
        subst hck2
        clear hck
        go_wp2_with fail
        go_region_law ((first | (refine step_ownAll (w := ((w4.alloc (.cells #[] 3)).alloc (.cells #[.int .i64 (i : Int)] 3)).drew) (show Own w4.heap.size ((w4.alloc (.cells #[] 3)).alloc (.cells #[.int .i64 (i : Int)] 3)).drew (.slice (some ⟨w4.heap.size, 0, none⟩) 0 0) [] from (Own.lit w4.heap.size w4.drew w4.heap.size (by simp) (by simp)).alloc (.cells #[.int .i64 (i : Int)] 3)) (show NumsAt ((w4.alloc (.cells #[] 3)).alloc (.cells #[.int .i64 (i : Int)] 3)).drew (.slice (some ⟨g, 0, none⟩) i i) (L.take i) from HNT.out.below (below2 w4 (.cells #[] 3) (.cells #[.int .i64 (i : Int)] 3))) HL0.out rfl (.tmp 19) (.tmp 22) rfl rfl rfl ?_; intro v1 w1 ho hg; have HO1 := Lib.hid ho; have HB1 := Lib.hid (grown_up (below2 w4 (.cells #[] 3) (.cells #[.int .i64 (i : Int)] 3)) hg (by simp) (Nat.le_refl _)); have HN1 : Hid (NumsAt w1 (.slice (some ⟨w4.heap.size + 1, 0, none⟩) 1 1) [i]) := ((show NumsAt ((w4.alloc (.cells #[] 3)).alloc (.cells #[.int .i64 (i : Int)] 3)).drew (.slice (some ⟨w4.heap.size + 1, 0, none⟩) 1 1) [i] from NumsAt.one' (w4.drew.alloc (.cells #[] 3)) i (w4.heap.size + 1) (by simp)).kept (fun k hk hl => hg.block k hl (by have e : _ = k := Option.some.inj hk; subst e; simp [Value.ownBlock])) hg.size); clear ho hg) | (refine step_ownAll (w := ((w4.alloc (.cells #[] 3)).drew.alloc (.cells #[.int .i64 (i : Int)] 3))) (show Own w4.heap.size ((w4.alloc (.cells #[] 3)).drew.alloc (.cells #[.int .i64 (i : Int)] 3)) (.slice (some ⟨w4.heap.size, 0, none⟩) 0 0) [] from (Own.lit w4.heap.size w4.drew w4.heap.size (by simp) (by simp)).alloc (.cells #[.int .i64 (i : Int)] 3)) (show NumsAt ((w4.alloc (.cells #[] 3)).drew.alloc (.cells #[.int .i64 (i : Int)] 3)) (.slice (some ⟨g, 0, none⟩) i i) (L.take i) from HNT.out.below (below2 w4 (.cells #[] 3) (.cells #[.int .i64 (i : Int)] 3))) HL0.out rfl (.tmp 19) (.tmp 22) rfl rfl rfl ?_; intro v1 w1 ho hg; have HO1 := Lib.hid ho; have HB1 := Lib.hid (grown_up (below2 w4 (.cells #[] 3) (.cells #[.int .i64 (i : Int)] 3)) hg (by simp) (Nat.le_refl _)); have HN1 : Hid (NumsAt w1 (.slice (some ⟨w4.heap.size + 1, 0, none⟩) 1 1) [i]) := ((show NumsAt ((w4.alloc (.cells #[] 3)).drew.alloc (.cells #[.int .i64 (i : Int)] 3)) (.slice (some ⟨w4.heap.size + 1, 0, none⟩) 1 1) [i] from NumsAt.one' (w4.drew.alloc (.cells #[] 3)) i (w4.heap.size + 1) (by simp)).kept (fun k hk hl => hg.block k hl (by have e : _ = k := Option.some.inj hk; subst e; simp [Value.ownBlock])) hg.size); clear ho hg) | (refine step_ownAll (w := ((w4.alloc (.cells #[.int .i64 (i : Int)] 3)).alloc (.cells #[] 3)).drew) (show Own w4.heap.size ((w4.alloc (.cells #[.int .i64 (i : Int)] 3)).alloc (.cells #[] 3)).drew (.slice (some ⟨w4.heap.size + 1, 0, none⟩) 0 0) [] from Own.lit w4.heap.size (w4.drew.alloc (.cells #[.int .i64 (i : Int)] 3)) (w4.heap.size + 1) (by simp) (by simp)) (show NumsAt ((w4.alloc (.cells #[.int .i64 (i : Int)] 3)).alloc (.cells #[] 3)).drew (.slice (some ⟨g, 0, none⟩) i i) (L.take i) from HNT.out.below (below2 w4 (.cells #[.int .i64 (i : Int)] 3) (.cells #[] 3))) HL0.out rfl (.tmp 19) (.tmp 22) rfl rfl rfl ?_; intro v1 w1 ho hg; have HO1 := Lib.hid ho; have HB1 := Lib.hid (grown_up (below2 w4 (.cells #[.int .i64 (i : Int)] 3) (.cells #[] 3)) hg (by simp) (Nat.le_refl _)); have HN1 : Hid (NumsAt w1 (.slice (some ⟨w4.heap.size, 0, none⟩) 1 1) [i]) := ((show NumsAt ((w4.alloc (.cells #[.int .i64 (i : Int)] 3)).alloc (.cells #[] 3)).drew (.slice (some ⟨w4.heap.size, 0, none⟩) 1 1) [i] from (NumsAt.one' w4.drew i w4.heap.size (by simp)).below ((Below.refl _ _).alloc (Nat.le_refl _) (.cells #[] 3))).kept (fun k hk hl => hg.block k hl (by have e : _ = k := Option.some.inj hk; subst e; simp [Value.ownBlock])) hg.size); clear ho hg) | (refine step_ownAll (w := ((w4.alloc (.cells #[.int .i64 (i : Int)] 3)).drew.alloc (.cells #[] 3))) (show Own w4.heap.size ((w4.alloc (.cells #[.int .i64 (i : Int)] 3)).drew.alloc (.cells #[] 3)) (.slice (some ⟨w4.heap.size + 1, 0, none⟩) 0 0) [] from Own.lit w4.heap.size (w4.drew.alloc (.cells #[.int .i64 (i : Int)] 3)) (w4.heap.size + 1) (by simp) (by simp)) (show NumsAt ((w4.alloc (.cells #[.int .i64 (i : Int)] 3)).drew.alloc (.cells #[] 3)) (.slice (some ⟨g, 0, none⟩) i i) (L.take i) from HNT.out.below (below2 w4 (.cells #[.int .i64 (i : Int)] 3) (.cells #[] 3))) HL0.out rfl (.tmp 19) (.tmp 22) rfl rfl rfl ?_; intro v1 w1 ho hg; have HO1 := Lib.hid ho; have HB1 := Lib.hid (grown_up (below2 w4 (.cells #[.int .i64 (i : Int)] 3) (.cells #[] 3)) hg (by simp) (Nat.le_refl _)); have HN1 : Hid (NumsAt w1 (.slice (some ⟨w4.heap.size, 0, none⟩) 1 1) [i]) := ((show NumsAt ((w4.alloc (.cells #[.int .i64 (i : Int)] 3)).drew.alloc (.cells #[] 3)) (.slice (some ⟨w4.heap.size, 0, none⟩) 1 1) [i] from (NumsAt.one' w4.drew i w4.heap.size (by simp)).below ((Below.refl _ _).alloc (Nat.le_refl _) (.cells #[] 3))).kept (fun k hk hl => hg.block k hl (by have e : _ = k := Option.some.inj hk; subst e; simp [Value.ownBlock])) hg.size); clear ho hg) | (refine step_ownAll (w := (w4.alloc (.cells #[] 3)).drew) (show Own w4.heap.size ((w4.alloc (.cells #[] 3)).drew) (.slice (some ⟨w4.heap.size, 0, none⟩) 0 0) [] from Own.lit w4.heap.size w4.drew w4.heap.size (by simp) (by simp)) (show NumsAt ((w4.alloc (.cells #[] 3)).drew) (.slice (some ⟨g, 0, none⟩) i i) (L.take i) from HNT.out.below (below1 w4 (.cells #[] 3))) HL0.out rfl (.tmp 19) (.tmp 22) rfl rfl rfl ?_; intro v1 w1 ho hg; have HO1 := Lib.hid ho; have HB1 := Lib.hid (grown_up (below1 w4 (.cells #[] 3)) hg (by simp) (Nat.le_refl _)); clear ho hg) | (refine step_ownAll (w := w1.alloc (.cells #[.int .i64 (i : Int)] 3)) (HO1.out.alloc _) (NumsAt.one w1 i) HL1.out rfl (.tmp 23) (.tmp 25) rfl rfl rfl ?_; intro v2 w2 ho hg; have HO2 := Lib.hid ho; have HB2 := Lib.hid ((HB1.out.alloc HB1.out.size _).grown hg (by have := HB1.out.size; simp; omega) (fun k hk => (HO1.out.own.lt k hk).1)); clear ho hg) | (refine step_ownAll (w := w1) HO1.out HN1.out HL1.out rfl (.tmp 23) (.tmp 25) rfl rfl rfl ?_; intro v2 w2 ho hg; have HO2 := Lib.hid ho; have HB2 := Lib.hid (HB1.out.grown hg HB1.out.size (fun k hk => (HO1.out.own.lt k hk).1)); clear ho hg) | (refine step_ownAll (w := w2) HO2.out (HND.out.below HB2.out) HL2.out rfl (.tmp 26) (.tmp 29) rfl rfl rfl ?_; intro v3 w3 ho hg; have HO3 := Lib.hid ho; have HB3 := Lib.hid (HB2.out.grown hg HB2.out.size (fun k hk => (HO2.out.own.lt k hk).1)); clear ho hg)))
        all_goals
          have HR3 := Lib.hid (HR4.out.grown (below_grown HB3.out))
          have HG3 := Lib.hid (HG4.out.trans (below_grown HB3.out))
          go_wp2_with fail
          go_roundw
          case rel => exact ⟨i + 1, by omega, by go_num, _, HFIN.out.1, HFIN.out.2, HO3.out.mono hwL, HR3.out, HG3.out⟩
          case measure => simp [intOf]; omega
      · have s5 : ¬ cap = k := hck
        have s6 : ¬ (cap : Int) = (k : Int) := by omega
        have HND : Hid (NumsAt w4 (.slice (some ⟨g, k, none⟩) (i - k) (cap - k)) (L.drop k)) := by have := nums_hi (k := k) (by rw [HLL.out]; exact hc1) hcm HG.out HC4.out (by rw [HLL.out]; exact hki); rw [HLL.out] at this; exact this
        go_wp2_with fail
        go_region_law ((first | (refine step_ownAll (w := ((w4.alloc (.cells #[] 3)).alloc (.cells #[.int .i64 (i : Int)] 3)).drew) (show Own w4.heap.size ((w4.alloc (.cells #[] 3)).alloc (.cells #[.int .i64 (i : Int)] 3)).drew (.slice (some ⟨w4.heap.size, 0, none⟩) 0 0) [] from (Own.lit w4.heap.size w4.drew w4.heap.size (by simp) (by simp)).alloc (.cells #[.int .i64 (i : Int)] 3)) (show NumsAt ((w4.alloc (.cells #[] 3)).alloc (.cells #[.int .i64 (i : Int)] 3)).drew (.slice (some ⟨g, 0, none⟩) k cap) (L.take k) from HNT.out.below (below2 w4 (.cells #[] 3) (.cells #[.int .i64 (i : Int)] 3))) HL0.out rfl (.tmp 19) (.tmp 22) rfl rfl rfl ?_; intro v1 w1 ho hg; have HO1 := Lib.hid ho; have HB1 := Lib.hid (grown_up (below2 w4 (.cells #[] 3) (.cells #[.int .i64 (i : Int)] 3)) hg (by simp) (Nat.le_refl _)); have HN1 : Hid (NumsAt w1 (.slice (some ⟨w4.heap.size + 1, 0, none⟩) 1 1) [i]) := ((show NumsAt ((w4.alloc (.cells #[] 3)).alloc (.cells #[.int .i64 (i : Int)] 3)).drew (.slice (some ⟨w4.heap.size + 1, 0, none⟩) 1 1) [i] from NumsAt.one' (w4.drew.alloc (.cells #[] 3)) i (w4.heap.size + 1) (by simp)).kept (fun k hk hl => hg.block k hl (by have e : _ = k := Option.some.inj hk; subst e; simp [Value.ownBlock])) hg.size); clear ho hg) | (refine step_ownAll (w := ((w4.alloc (.cells #[] 3)).drew.alloc (.cells #[.int .i64 (i : Int)] 3))) (show Own w4.heap.size ((w4.alloc (.cells #[] 3)).drew.alloc (.cells #[.int .i64 (i : Int)] 3)) (.slice (some ⟨w4.heap.size, 0, none⟩) 0 0) [] from (Own.lit w4.heap.size w4.drew w4.heap.size (by simp) (by simp)).alloc (.cells #[.int .i64 (i : Int)] 3)) (show NumsAt ((w4.alloc (.cells #[] 3)).drew.alloc (.cells #[.int .i64 (i : Int)] 3)) (.slice (some ⟨g, 0, none⟩) k cap) (L.take k) from HNT.out.below (below2 w4 (.cells #[] 3) (.cells #[.int .i64 (i : Int)] 3))) HL0.out rfl (.tmp 19) (.tmp 22) rfl rfl rfl ?_; intro v1 w1 ho hg; have HO1 := Lib.hid ho; have HB1 := Lib.hid (grown_up (below2 w4 (.cells #[] 3) (.cells #[.int .i64 (i : Int)] 3)) hg (by simp) (Nat.le_refl _)); have HN1 : Hid (NumsAt w1 (.slice (some ⟨w4.heap.size + 1, 0, none⟩) 1 1) [i]) := ((show NumsAt ((w4.alloc (.cells #[] 3)).drew.alloc (.cells #[.int .i64 (i : Int)] 3)) (.slice (some ⟨w4.heap.size + 1, 0, none⟩) 1 1) [i] from NumsAt.one' (w4.drew.alloc (.cells #[] 3)) i (w4.heap.size + 1) (by simp)).kept (fun k hk hl => hg.block k hl (by have e : _ = k := Option.some.inj hk; subst e; simp [Value.ownBlock])) hg.size); clear ho hg) | (refine step_ownAll (w := ((w4.alloc (.cells #[.int .i64 (i : Int)] 3)).alloc (.cells #[] 3)).drew) (show Own w4.heap.size ((w4.alloc (.cells #[.int .i64 (i : Int)] 3)).alloc (.cells #[] 3)).drew (.slice (some ⟨w4.heap.size + 1, 0, none⟩) 0 0) [] from Own.lit w4.heap.size (w4.drew.alloc (.cells #[.int .i64 (i : Int)] 3)) (w4.heap.size + 1) (by simp) (by simp)) (show NumsAt ((w4.alloc (.cells #[.int .i64 (i : Int)] 3)).alloc (.cells #[] 3)).drew (.slice (some ⟨g, 0, none⟩) k cap) (L.take k) from HNT.out.below (below2 w4 (.cells #[.int .i64 (i : Int)] 3) (.cells #[] 3))) HL0.out rfl (.tmp 19) (.tmp 22) rfl rfl rfl ?_; intro v1 w1 ho hg; have HO1 := Lib.hid ho; have HB1 := Lib.hid (grown_up (below2 w4 (.cells #[.int .i64 (i : Int)] 3) (.cells #[] 3)) hg (by simp) (Nat.le_refl _)); have HN1 : Hid (NumsAt w1 (.slice (some ⟨w4.heap.size, 0, none⟩) 1 1) [i]) := ((show NumsAt ((w4.alloc (.cells #[.int .i64 (i : Int)] 3)).alloc (.cells #[] 3)).drew (.slice (some ⟨w4.heap.size, 0, none⟩) 1 1) [i] from (NumsAt.one' w4.drew i w4.heap.size (by simp)).below ((Below.refl _ _).alloc (Nat.le_refl _) (.cells #[] 3))).kept (fun k hk hl => hg.block k hl (by have e : _ = k := Option.some.inj hk; subst e; simp [Value.ownBlock])) hg.size); clear ho hg) | (refine step_ownAll (w := ((w4.alloc (.cells #[.int .i64 (i : Int)] 3)).drew.alloc (.cells #[] 3))) (show Own w4.heap.size ((w4.alloc (.cells #[.int .i64 (i : Int)] 3)).drew.alloc (.cells #[] 3)) (.slice (some ⟨w4.heap.size + 1, 0, none⟩) 0 0) [] from Own.lit w4.heap.size (w4.drew.alloc (.cells #[.int .i64 (i : Int)] 3)) (w4.heap.size + 1) (by simp) (by simp)) (show NumsAt ((w4.alloc (.cells #[.int .i64 (i : Int)] 3)).drew.alloc (.cells #[] 3)) (.slice (some ⟨g, 0, none⟩) k cap) (L.take k) from HNT.out.below (below2 w4 (.cells #[.int .i64 (i : Int)] 3) (.cells #[] 3))) HL0.out rfl (.tmp 19) (.tmp 22) rfl rfl rfl ?_; intro v1 w1 ho hg; have HO1 := Lib.hid ho; have HB1 := Lib.hid (grown_up (below2 w4 (.cells #[.int .i64 (i : Int)] 3) (.cells #[] 3)) hg (by simp) (Nat.le_refl _)); have HN1 : Hid (NumsAt w1 (.slice (some ⟨w4.heap.size, 0, none⟩) 1 1) [i]) := ((show NumsAt ((w4.alloc (.cells #[.int .i64 (i : Int)] 3)).drew.alloc (.cells #[] 3)) (.slice (some ⟨w4.heap.size, 0, none⟩) 1 1) [i] from (NumsAt.one' w4.drew i w4.heap.size (by simp)).below ((Below.refl _ _).alloc (Nat.le_refl _) (.cells #[] 3))).kept (fun k hk hl => hg.block k hl (by have e : _ = k := Option.some.inj hk; subst e; simp [Value.ownBlock])) hg.size); clear ho hg) | (refine step_ownAll (w := (w4.alloc (.cells #[] 3)).drew) (show Own w4.heap.size ((w4.alloc (.cells #[] 3)).drew) (.slice (some ⟨w4.heap.size, 0, none⟩) 0 0) [] from Own.lit w4.heap.size w4.drew w4.heap.size (by simp) (by simp)) (show NumsAt ((w4.alloc (.cells #[] 3)).drew) (.slice (some ⟨g, 0, none⟩) k cap) (L.take k) from HNT.out.below (below1 w4 (.cells #[] 3))) HL0.out rfl (.tmp 19) (.tmp 22) rfl rfl rfl ?_; intro v1 w1 ho hg; have HO1 := Lib.hid ho; have HB1 := Lib.hid (grown_up (below1 w4 (.cells #[] 3)) hg (by simp) (Nat.le_refl _)); clear ho hg) | (refine step_ownAll (w := w1.alloc (.cells #[.int .i64 (i : Int)] 3)) (HO1.out.alloc _) (NumsAt.one w1 i) HL1.out rfl (.tmp 23) (.tmp 25) rfl rfl rfl ?_; intro v2 w2 ho hg; have HO2 := Lib.hid ho; have HB2 := Lib.hid ((HB1.out.alloc HB1.out.size _).grown hg (by have := HB1.out.size; simp; omega) (fun k hk => (HO1.out.own.lt k hk).1)); clear ho hg) | (refine step_ownAll (w := w1) HO1.out HN1.out HL1.out rfl (.tmp 23) (.tmp 25) rfl rfl rfl ?_; intro v2 w2 ho hg; have HO2 := Lib.hid ho; have HB2 := Lib.hid (HB1.out.grown hg HB1.out.size (fun k hk => (HO1.out.own.lt k hk).1)); clear ho hg) | (refine step_ownAll (w := w2) HO2.out (HND.out.below HB2.out) HL2.out rfl (.tmp 26) (.tmp 29) rfl rfl rfl ?_; intro v3 w3 ho hg; have HO3 := Lib.hid ho; have HB3 := Lib.hid (HB2.out.grown hg HB2.out.size (fun k hk => (HO2.out.own.lt k hk).1)); clear ho hg)))
        all_goals
          have HR3 := Lib.hid (HR4.out.grown (below_grown HB3.out))
          have HG3 := Lib.hid (HG4.out.trans (below_grown HB3.out))
          go_wp2_with fail
          go_roundw
          case rel => exact ⟨i + 1, by omega, by go_num, _, HFIN.out.1, HFIN.out.2, HO3.out.mono hwL, HR3.out, HG3.out⟩
          case measure => simp [intOf]; omega
    · have hltI : ¬ (i : Int) < (n : Int) := by omega
      have hin : i = n := by omega
      subst hin
      obtain ⟨L1, L2, L3, L4, L5⟩ := HL.out
      have HP : Hid (∀ v, Own w.heap.size wr v L → Shuf b K i w (.returned v) wr) := fun v hv => ⟨_, L, rfl, L1, L2, hv.nums, L4, L5⟩
      have HP2 := Lib.hid (HP.out _ L3)
      clear HP
      clear HL L1 L2 L3 L4 L5
      go_wp2_with fail
      go_ret
      exact HP2.out
end Go.Proofs.YtjepegkbbbebkaaDoor
/- The reference's l1Flip of one byte. Condition: the text has one byte. -/
namespace Go.Proofs.YtjepegkbbbebkaaDoor
open Go.RowKit
set_option linter.unusedVariables false
set_option maxRecDepth 100000

theorem u8_wrap (z : Int) : ∃ d : UInt8, IntKind.u8.wrap z = ((d.toNat : Nat) : Int) := by
  have h : IntKind.u8.wrap z = z % 256 := by rfl
  refine ⟨UInt8.ofNat (z % 256).toNat, ?_⟩
  rw [h]
  have h0 : 0 ≤ z % 256 := Int.emod_nonneg _ (by decide)
  have h1 : z % 256 < 256 := Int.emod_lt_of_pos _ (by decide)
  rw [UInt8.toNat_ofNat']
  omega
/-- The byte that a text's first byte is turned into. -/
noncomputable def flipU (t : ByteArray) : UInt8 := Classical.choose (u8_wrap (97 - (((t.data.toList.getD 0 0).toNat : Nat) : Int)))
theorem flipU_is (t : ByteArray) : IntKind.u8.wrap (97 - (((t.data.toList.getD 0 0).toNat : Nat) : Int)) = (((flipU t).toNat : Nat) : Int) := Classical.choose_spec (u8_wrap (97 - (((t.data.toList.getD 0 0).toNat : Nat) : Int)))
/-- What the flipping keeps. -/
def Fl (w wr : World) (d : UInt8) : Prop := wr.cell? ⟨w.heap.size, 0, none⟩ = some (.int .u8 ((d.toNat : Nat) : Int)) ∧ wr.frozen? ⟨w.heap.size, 0, none⟩ = false ∧ Below w.heap.size w wr
theorem l1Flip_one (t : ByteArray) (ht : t.size = 1) (w : World) :
    Calls Tryd.prog 44 #[.string t] w fun e w' => e = .returned (.string ⟨#[flipU t]⟩) ∧ Below w.heap.size w w' := by
  have hd2 := flipU_is t
  have cs := Lib.run_convert_string_bytes (P := Tryd.prog) w 9 22 5 t Tryd.underlying9 Tryd.underlying22 Tryd.underlying5
  have HF0 : Hid (Fl w (Lib.bytesWorld w 5 t) (t.data.toList.getD 0 0)) := by
    refine ⟨Lib.bytesWorld_cell w 5 t 0 (by omega), ?_, ⟨rfl, rfl, rfl, by rw [Lib.bytesWorld_size]; omega, fun k hk => Lib.bytesWorld_at_old _ _ _ _ hk⟩⟩
    unfold World.frozen?
    rw [Lib.bytesWorld_at_new]
    have hs : 1 ≤ (Lib.bytesCells w 5 t).size := by
      unfold Lib.bytesCells
      have : t.data.size = 1 := ht
      simp; omega
    show (decide ((Lib.bytesCells w 5 t).size ≤ 0) && _) = false
    rw [decide_eq_false (by omega)]; rfl
  rw [ht] at cs
  obtain ⟨W1, hW1⟩ : ∃ W1, Lib.bytesWorld w 5 t = W1 := ⟨_, rfl⟩
  rw [hW1] at cs HF0
  clear hW1 ht
  generalize flipU t = d2 at *
  generalize t.data.toList.getD 0 0 = d0 at *
  generalize grownCap w 1 0 5 = cap at *
  have cb : ∀ (W : World) (d : UInt8), W.cell? ⟨w.heap.size, 0, none⟩ = some (.int .u8 ((d.toNat : Nat) : Int)) → (convert 22 9 (.slice (some ⟨w.heap.size, 0, none⟩) 1 cap)).run Tryd.prog W = .ok (.string ⟨#[d]⟩) W := fun W d hd =>
    run_convert_bytes_back W 22 9 5 ⟨w.heap.size, 0, none⟩ cap [d] Tryd.underlying22 Tryd.underlying5 Tryd.underlying9 (fun j hj => by
      have hj0 : j = 0 := by simpa using hj
      subst hj0
      exact hd)
  have HCB := Lib.hid cb
  clear cb
  go_enter Tryd.func44, Tryd.ntmps44
  go_wp2_with fail
  go_loopw [4] (fun q wr => ∃ j : Nat, j ≤ 1 ∧ q = .int .i64 (j : Int) ∧ Hid (Fl w wr (if j = 0 then d0 else d2))) (fun q _ => 1 - (intOf q).toNat)
  case atStart => exact ⟨0, by omega, rfl, HF0.out⟩
  case round =>
    clear HF0
    obtain ⟨j, hj, rfl, HL⟩ := hrel
    by_cases hlt : j < 1
    · have hj0 : j = 0 := by omega
      subst hj0
      obtain ⟨hd, hfz, hb⟩ : Fl w wr d0 := HL.out
      have HL2 : Hid (Fl w (wr.setCell ⟨w.heap.size, 0, none⟩ (.int .u8 ((d2.toNat : Nat) : Int))) d2) := by
        exact ⟨World.cell?_setCell_same' _ _ _ (by rw [hd]; rfl), by rw [World.frozen?_setCell]; exact hfz, hb.setCell (by simp) _⟩
      clear hb
      go_wp2_with fail
      go_roundw
      case rel => exact ⟨1, by omega, by go_num, HL2.out⟩
      case measure => simp [intOf]
    · have hj1 : j = 1 := by omega
      subst hj1
      obtain ⟨hd, hfz, hb⟩ : Fl w wr d2 := HL.out
      have HB := Lib.hid hb
      have hcb := HCB.out wr d2 hd
      clear hb
      go_wp2_with fail
      go_ret
      exact ⟨rfl, HB.out⟩
end Go.Proofs.YtjepegkbbbebkaaDoor
/- The draw of DrawWordOf: a structure of small size. Condition: the bytes are readable. -/
namespace Go.Proofs.YtjepegkbbbebkaaDoor
open Go.RowKit
set_option linter.unusedVariables false
set_option maxRecDepth 100000

def Txt1 (b K n : Nat) (w : World) (e : Ending) (w' : World) : Prop := ∃ t : ByteArray, 1 ≤ t.size ∧ t.size ≤ n ∧ e = .returned (.string t) ∧ RdB w' b K ∧ w.grownBy w' (some b)
set_option maxHeartbeats 1000000 in
theorem l12Draw1_any (w : World) (b K m : Nat) (h : RdB w b K) (hk : K < 1000000000) (hm : 1 ≤ m) (hm2 : m ≤ 8) :
    Calls Tryd.prog 39 #[.pointer (some ⟨b, 0, none⟩), .int .i64 (m : Int)] w (Txt1 b (K + 9) 8 w) := by
  have H := Lib.hid h
  clear h
  go_enter Tryd.func39, Tryd.ntmps39
  go_wp2_with fail
  refine (pickB _ b K _ H.out (by omega) (by omega) (by omega)).mono ?_; rintro e w1 ⟨v, rfl, v0, v1, hr, hg⟩
  obtain ⟨j, rfl⟩ := Int.eq_ofNat_of_zero_le v0
  have HR := Lib.hid hr
  have HG := Lib.hid hg
  clear hr hg
  go_wp2_with fail
  go_loopw [6, 5] (fun n o wr => ∃ (i : Nat) (out : ByteArray), n = .int .i64 i ∧ o = .string out ∧ i ≤ 8 ∧ out.size + i ≤ 8 ∧ 1 ≤ out.size + i ∧ Hid (RdB wr b (K + 1 + (8 - i))) ∧ Hid (w.grownBy wr (some b))) (fun n _ _ => (intOf n).toNat)
  case atStart => exact ⟨j + 1, ByteArray.empty, by go_num, rfl, by omega, by simp; omega, by simp, HR.out.mono (by omega), HG.out⟩
  case round =>
    obtain ⟨i, out, rfl, rfl, hi, ho, ho1, HRR, HGG⟩ := hrel
    by_cases h0 : i = 0
    · subst h0
      have HP : Hid (Txt1 b (K + 9) 8 w (.returned (.string out)) wr) := ⟨out, by omega, by omega, rfl, HRR.out.mono (by omega), HGG.out⟩
      go_wp2_with fail
      go_ret
      exact HP.out
    · obtain ⟨i, rfl⟩ : ∃ l, i = l + 1 := ⟨i - 1, by omega⟩
      have hiI : (0 : Int) < (i : Int) + 1 := by omega
      have hw1 : IntKind.i64.wrap ((i : Int) + 1 - 1) = (i : Int) := by
        rw [show (i : Int) + 1 - 1 = (i : Int) by omega]; exact IntWalk.i64_in _ (by omega)
      go_wp2_with fail
      refine (of_ne wr b _ 1 [⟨#[120]⟩, ⟨#[121]⟩] _ HRR.out (by omega) (by decide) (by decide) (by intro x hx; simp at hx; rcases hx with rfl | rfl <;> decide)).mono ?_; rintro e w2 ⟨t, t1, t2, rfl, hr, hg⟩
      have HR2 := Lib.hid hr
      have HG2 := Lib.hid (HGG.out.trans hg)
      clear hr hg
      go_wp2_with fail
      go_roundw
      case rel => exact ⟨i, out ++ t, by go_num, rfl, by omega, by rw [ByteArray.size_append]; omega, by rw [ByteArray.size_append]; omega, HR2.out.mono (by omega), HG2.out⟩
      case measure => simp [intOf]
theorem wd_fin {wx : World} {x k n : Nat} {S R : ByteArray} (hk : k = n) (hS : S.size = k) (hR : R.size = k * k) (h : SBlk wx x (k : Int) S R) : ∃ S R : ByteArray, S.size = n ∧ R.size = n * n ∧ SBlk wx x (n : Int) S R := by
  subst hk; exact ⟨S, R, hS, hR, h⟩
theorem rdB_belW {w w' : World} {b K : Nat} (h : RdB w b K) (hb : Below w.heap.size w w') : RdB w' b K := h.grown (below_grown hb)
set_option maxHeartbeats 2000000 in
theorem DrawWordOf_any (w : World) (a : Option Addr) (len cap : Nat) (zs : List Int) (h : IsRow .u8 w a len cap zs) :
    Calls Tryd.prog 7 #[.slice a len cap] w (StrL w) := by
  have HB0 : Hid (Below w.heap.size w (w.alloc (.cells #[.int .i64 0, .string ⟨#[]⟩, .string ⟨#[]⟩] 24))) := (Below.refl _ _).alloc (Nat.le_refl _) _
  have HB1 : Hid (SBlk (w.alloc (.cells #[.int .i64 0, .string ⟨#[]⟩, .string ⟨#[]⟩] 24)) w.heap.size 0 ⟨#[]⟩ ⟨#[]⟩) := SBlk.new w 0 ⟨#[]⟩ ⟨#[]⟩
  have H := Lib.hid (h.below HB0.out); clear h
  have hz : (w.alloc (.cells #[.int .i64 0, .string ⟨#[]⟩, .string ⟨#[]⟩] 24)).heap.size = w.heap.size + 1 := by simp
  have HZ := Lib.hid hz; clear hz
  obtain ⟨W, hW⟩ : ∃ W, w.alloc (.cells #[.int .i64 0, .string ⟨#[]⟩, .string ⟨#[]⟩] 24) = W := ⟨_, rfl⟩
  rw [hW] at HB0 HB1 H HZ
  have HW := Lib.hid hW; clear hW
  go_enter Tryd.func7, Tryd.ntmps7
  go_upto_region 1 with fail
  rw [HW.out]
  go_wp2_with fail
  refine (l15Open_any _ _ _ _ _ H.out).mono ?_; rintro e w1 ⟨rfl, hr, hb, hs⟩
  have HR1 := Lib.hid hr
  have HBL1 := Lib.hid (HB0.out.trans (hb.mono HB0.out.size))
  have HX1 : Hid (SBlk w1 w.heap.size 0 ⟨#[]⟩ ⟨#[]⟩) := HB1.out.below hb HB1.out.cells.2.2.2.2.2.2
  have hlt : w.heap.size < W.heap.size := by rw [HZ.out]; omega
  clear hr hb hs
  generalize W.heap.size = B at *
  go_wp2_with fail
  refine (l12Draw1_any w1 B _ 6 HR1.out (by omega) (by omega) (by omega)).mono ?_; rintro e w2 ⟨t, t1, t2, rfl, hr, hg⟩
  have HR2 := Lib.hid hr
  have HBL2 := Lib.hid (below_of_grown HBL1.out (by omega) hg)
  have HX2 : Hid (SBlk w2 w.heap.size 0 ⟨#[]⟩ ⟨#[]⟩) := (hg.block w.heap.size HX1.out.cells.2.2.2.2.2.2 (by intro e; injection e; omega)).trans HX1.out
  clear hr hg
  go_wp2_with fail
  refine (l12Structure_any t w2 t2).mono ?_; rintro e w3 ⟨rfl, hb⟩
  have HR3 := Lib.hid (HR2.out.grown (below_grown hb))
  have HBL3 := Lib.hid (HBL2.out.trans (hb.mono HBL2.out.size))
  have HX3 : Hid (SBlk w3 w.heap.size 0 ⟨#[]⟩ ⟨#[]⟩) := HX2.out.below hb HX2.out.cells.2.2.2.2.2.2
  clear hb
  have hS0 : (bitsOf (letB t) t.size).size = t.size := bitsOf_size _ _
  have hR0 : (gridOf ltB t.size).size = t.size * t.size := bitsOf_size _ _
  unfold wordV strV
  obtain ⟨S0, hS⟩ : ∃ x, bitsOf (letB t) t.size = x := ⟨_, rfl⟩
  obtain ⟨R0, hR⟩ : ∃ x, gridOf ltB t.size = x := ⟨_, rfl⟩
  rw [hS] at hS0 ⊢
  rw [hR] at hR0 ⊢
  clear hS hR
  have HS0 := Lib.hid hS0
  have HR0 := Lib.hid hR0
  clear hS0 hR0
  go_upto_region 3 with fail
  have hal : Below w3.heap.size w3 (w3.alloc (.cells #[.int .i64 (t.size : Int), .string S0, .string R0] 24)) := (Below.refl _ _).alloc (Nat.le_refl _) _
  have HX4 : Hid (SBlk (w3.alloc (.cells #[.int .i64 (t.size : Int), .string S0, .string R0] 24)) w3.heap.size (t.size : Int) S0 R0) := SBlk.new w3 _ S0 R0
  obtain ⟨W4, hW4⟩ : ∃ x, w3.alloc (.cells #[.int .i64 (t.size : Int), .string S0, .string R0] 24) = x := ⟨_, rfl⟩
  rw [hW4] at HX4 hal ⊢
  have HR4 := Lib.hid (HR3.out.grown (below_grown hal))
  have HBL4 := Lib.hid (HBL3.out.trans (hal.mono HBL3.out.size))
  have HX4o : Hid (SBlk W4 w.heap.size 0 ⟨#[]⟩ ⟨#[]⟩) := HX3.out.below hal HX3.out.cells.2.2.2.2.2.2
  have hB3 : B < w3.heap.size := HR3.out.block
  have HB3 := Lib.hid hB3
  clear hal hW4
  obtain ⟨n, hn⟩ : ∃ n, t.size = n := ⟨_, rfl⟩
  rw [hn] at HX4 HS0 HR0 t1 t2
  generalize w3.heap.size = x4 at *
  obtain ⟨c0, c1, c2, _, _, _, hl4⟩ := HX4.out.cells
  have HSH := Lib.hid (fun W hr => l1Shuffle_any W B (0 + 9) n hr (by omega) t2)
  have hal5 : Below W4.heap.size W4 (W4.alloc (.cells #[.int .i64 0, .string ⟨#[]⟩, .string ⟨#[]⟩] 24)).drew := ((Below.refl _ _).alloc (Nat.le_refl _) _).drew
  have HRA := Lib.hid (HR4.out.grown (below_grown (Below.refl W4.heap.size W4).drew))
  have HRB := Lib.hid (HR4.out.grown (below_grown hal5))
  go_cut [5] (fun v wx => ∃ x5 : Nat, v = .pointer (some ⟨x5, 0, none⟩) ∧ Hid ((∃ S R : ByteArray, S.size = n ∧ R.size = n * n ∧ SBlk wx x5 (n : Int) S R) ∧ RdB wx B (0 + 9 + n) ∧ Below w.heap.size w wx ∧ SBlk wx w.heap.size 0 ⟨#[]⟩ ⟨#[]⟩ ∧ B < x5))
  case first =>
    have hB4 := HR4.out.block
    have hBw : w.heap.size ≤ B := Nat.le_of_lt hlt
    go_region_with (first
      | (go_at_call 41; refine (HSH.out _ (by first | exact HRA.out | exact HRB.out)).mono ?_; rintro e w5 ⟨v, L, rfl, hl, hL, hnv, hr, hg⟩; have HR5 := Lib.hid hr; have HNV := Lib.hid hnv; have HLN := Lib.hid hl; have HLL := Lib.hid hL; have HX5 : Hid (SBlk w5 x4 (n : Int) S0 R0) := (by first | exact (hg.block x4 hl4 (by intro e; injection e; omega)).trans HX4.out | exact (hg.block x4 (by simp; omega) (by intro e; injection e; omega)).trans (HX4.out.below hal5 hl4)); obtain ⟨e0, e1, e2, _, _, _, hl5⟩ := HX5.out.cells; have HBL5 : Hid (Below w.heap.size w w5) := (by first | exact below_of_grown HBL4.out.drew hBw hg | exact below_of_grown (HBL4.out.trans (hal5.mono HBL4.out.size)) hBw hg); have HX5o : Hid (SBlk w5 w.heap.size 0 ⟨#[]⟩ ⟨#[]⟩) := (by first | exact (hg.block w.heap.size HX4o.out.cells.2.2.2.2.2.2 (by intro e; injection e; omega)).trans HX4o.out | exact (hg.block w.heap.size (by have := HX4o.out.cells.2.2.2.2.2.2; simp; omega) (by intro e; injection e; omega)).trans (HX4o.out.below hal5 HX4o.out.cells.2.2.2.2.2.2)); (first | have HA5 : Hid (SBlk w5 W4.heap.size 0 ⟨#[]⟩ ⟨#[]⟩) := (hg.block W4.heap.size (by simp) (by intro e; injection e; omega)).trans (SBlk.new W4 0 ⟨#[]⟩ ⟨#[]⟩) | skip); clear hr hg hnv hl hL)
      | (go_at_call 40; refine (l1Part_any n S0 R0 L v _ t2 HS0.out HR0.out (by rw [HLN.out]; exact t2) (fun j hj => HLL.out _ (by rw [List.getD_eq_getElem?_getD, List.getElem?_eq_getElem hj]; exact List.getElem_mem hj)) (by first | exact HNV.out | exact HNV.out.below ((Below.refl _ _).alloc (Nat.le_refl _) _))).mono ?_; rintro e w6 ⟨rfl, hb6⟩; have HT6 : Hid (Below w5.heap.size w5 w6) := (by first | exact hb6 | exact (((Below.refl w5.heap.size w5).alloc (Nat.le_refl _) _).trans (hb6.mono (by simp)))); (first | have HA6 : Hid (SBlk w6 W4.heap.size 0 ⟨#[]⟩ ⟨#[]⟩) := HA5.out.below hb6 HA5.out.cells.2.2.2.2.2.2 | have HA6 : Hid (SBlk w6 w5.heap.size 0 ⟨#[]⟩ ⟨#[]⟩) := (SBlk.new w5 0 ⟨#[]⟩ ⟨#[]⟩).below hb6 (by simp) | skip); (first | obtain ⟨a0, a1, a2, a3, a4, a5, a6⟩ := HA6.out.cells | skip); clear hb6; unfold partV strV))
    all_goals
      have hB5 := HR5.out.block
      have HR6 := Lib.hid (rdB_belW HR5.out HT6.out)
      have HBL6 := Lib.hid (HBL5.out.trans (HT6.out.mono HBL5.out.size))
      have HX6o := Lib.hid (HX5o.out.below HT6.out HX5o.out.cells.2.2.2.2.2.2)
      have hB6 := HR6.out.block
      go_wp2_with fail
      go_meet
      first
      | exact ⟨_, rfl, wd_fin HLN.out (bitsOf_size _ _) (bitsOf_size _ _) (SBlk.new w6 _ _ _), rdB_belW HR6.out ((Below.refl _ _).alloc (Nat.le_refl _) _), HBL6.out.alloc HBL6.out.size _, HX6o.out.below ((Below.refl _ _).alloc (Nat.le_refl _) _) HX6o.out.cells.2.2.2.2.2.2, hB6⟩
      | exact ⟨_, rfl, wd_fin HLN.out (bitsOf_size _ _) (bitsOf_size _ _) HA6.out.set3, rdB_set (rdB_set (rdB_set HR6.out hB5) hB5) hB5, ((HBL6.out.setCell HBL5.out.size _).setCell HBL5.out.size _).setCell HBL5.out.size _, HX6o.out.below (((Below.refl w5.heap.size w6).setCell (Nat.le_refl _) _).setCell (Nat.le_refl _) _ |>.setCell (Nat.le_refl _) _) HX5o.out.cells.2.2.2.2.2.2, hB5⟩
      | exact ⟨_, rfl, wd_fin HLN.out (bitsOf_size _ _) (bitsOf_size _ _) HA6.out.set3, rdB_set (rdB_set (rdB_set HR6.out hB4) hB4) hB4, ((HBL6.out.setCell HBL4.out.size _).setCell HBL4.out.size _).setCell HBL4.out.size _, HX6o.out.below (((Below.refl W4.heap.size w6).setCell (Nat.le_refl _) _).setCell (Nat.le_refl _) _ |>.setCell (Nat.le_refl _) _) HX4o.out.cells.2.2.2.2.2.2, hB4⟩
  case rest =>
    obtain ⟨x5, rfl, HC⟩ := hcut
    obtain ⟨⟨S, R, hS, hR, hX⟩, hr, hb, ho, hx5⟩ := HC.out
    have HX := Lib.hid hX
    have HR := Lib.hid hr
    have HBL := Lib.hid hb
    have HO := Lib.hid ho
    have hnn : 1 ≤ n * n ∧ n * n ≤ 64 := ⟨Nat.mul_le_mul t1 t1, Nat.mul_le_mul t2 t2⟩
    obtain ⟨N, hN⟩ : ∃ N, n * n = N := ⟨_, rfl⟩
    rw [hN] at hR hnn
    clear hN HC hX hr hb ho HX4 HR4 HBL4 HX4o HB3 HSH hal5 HRA HRB c0 c1 c2 hl4 HR3 HBL3 HX3 HR2 HBL2 HX2 HR1 HBL1 HX1 HW HB0 HB1 H HS0 HR0
    go_wp2_with fail
    refine (pickB _ B _ _ HR.out (by omega) (by omega) (by omega)).mono ?_; rintro e w7 ⟨v, rfl, v0, v1, hr, hg⟩
    have HR7 := Lib.hid hr
    have HBL7 := Lib.hid (below_of_grown HBL.out (by omega) hg)
    have HX7 : Hid (SBlk w7 x5 (n : Int) S R) := (hg.block x5 HX.out.cells.2.2.2.2.2.2 (by intro e; injection e; omega)).trans HX.out
    have HO7 : Hid (SBlk w7 w.heap.size 0 ⟨#[]⟩ ⟨#[]⟩) := (hg.block w.heap.size HO.out.cells.2.2.2.2.2.2 (by intro e; injection e; omega)).trans HO.out
    clear hr hg HX HR HBL HO
    by_cases hv0 : v = 0
    · subst hv0
      go_wp2_with fail
      refine (l1Open_any B _ w7 HR7.out (by omega)).mono ?_; rintro e w8 ⟨m, T, U, m0, m1, hT, hU, rfl, hr, hg⟩
      have HBL8 := Lib.hid (below_of_grown HBL7.out (by omega) hg)
      have HX8 : Hid (SBlk w8 w.heap.size 0 ⟨#[]⟩ ⟨#[]⟩) := (hg.block w.heap.size HO7.out.cells.2.2.2.2.2.2 (by intro e; injection e; omega)).trans HO7.out
      clear hr hg
      obtain ⟨d0, d1, d2, g0, g1, g2, hbc⟩ := HX8.out.cells
      have HP : Hid (StrL w (.returned (strV m T U)) (((w8.setCell ⟨w.heap.size, 0, none⟩ (.int .i64 m)).setCell ⟨w.heap.size, 1, none⟩ (.string T)).setCell ⟨w.heap.size, 2, none⟩ (.string U))) :=
        ⟨m, T, U, m0, m1, hT, hU, rfl, ((HBL8.out.setCell (Nat.le_refl _) _).setCell (Nat.le_refl _) _).setCell (Nat.le_refl _) _⟩
      unfold strV
      go_wp2_with fail
      refine bodyPost_ret (v := strV m T U) ?_ rfl HP.out
      exact results_str rfl rfl HX8.out.set3
    · have hv0B : (v == 0) = false := by simpa using hv0
      by_cases hv1 : v = 1
      · subst hv1
        obtain ⟨c0, c1, c2, f0, f1, f2, l7⟩ := HX7.out.cells
        go_wp2_with fail
        refine (pickB _ B _ _ HR7.out (by omega) (by omega) (by omega)).mono ?_; rintro e w8 ⟨k, rfl, k0, k1, hr, hg⟩
        have HBL8 := Lib.hid (below_of_grown HBL7.out (by omega) hg)
        have HX8 : Hid (SBlk w8 x5 (n : Int) S R) := (hg.block x5 HX7.out.cells.2.2.2.2.2.2 (by intro e; injection e; omega)).trans HX7.out
        have HO8 : Hid (SBlk w8 w.heap.size 0 ⟨#[]⟩ ⟨#[]⟩) := (hg.block w.heap.size HO7.out.cells.2.2.2.2.2.2 (by intro e; injection e; omega)).trans HO7.out
        clear hr hg c0 c1 c2 f0 f1 f2 l7 HX7 HO7 HBL7 HR7
        obtain ⟨j, rfl⟩ := Int.eq_ofNat_of_zero_le k0
        have hj : j < N := by omega
        have hw1 : IntKind.i64.wrap ((j : Int) + 1) = (j : Int) + 1 := IntWalk.i64_in _ (by omega)
        have hx1 : (R.extract j (j + 1)).size = 1 := by simp; omega
        have hx0 : (R.extract 0 j).size = j := by simp; omega
        have hx2 : (R.extract (j + 1) N).size = N - (j + 1) := by simp; omega
        have HFL := Lib.hid (fun w => l1Flip_one (R.extract j (j + 1)) hx1 w)
        obtain ⟨c0, c1, c2, f0, f1, f2, l8⟩ := HX8.out.cells
        have hjI : (j : Int) + 1 ≤ (R.size : Int) := by omega
        have hjJ : (j : Int) ≤ (R.size : Int) := by omega
        obtain ⟨u, hu⟩ : ∃ u : ByteArray, (⟨#[flipU (R.extract j (j + 1))]⟩ : ByteArray) = u := ⟨_, rfl⟩
        have huz : u.size = 1 := by rw [← hu]; rfl
        rw [hu] at HFL
        clear hu
        have hc1 : ¬ 9223372036854775807 < (R.extract 0 j).size + u.size := by rw [hx0, huz]; omega
        have hc2 : ¬ 9223372036854775807 < (R.extract 0 j ++ u).size + (R.extract (j + 1) N).size := by rw [ByteArray.size_append, hx0, huz, hx2]; omega
        have HUZ : Hid ((R.extract 0 j ++ u ++ R.extract (j + 1) N).size ≤ 100) := by show _ ≤ _; rw [ByteArray.size_append, ByteArray.size_append, hx0, huz, hx2]; omega
        have q2 := fun s => Since.cell c2 s
        go_wp2_with fail
        refine wp_region_since_tail 19 (by kernel_rfl) (by kernel_rfl) ?_
        simp only [List.take_succ_cons, List.take_zero, List.drop_succ_cons, List.drop_zero]
        repeat (go_big_quiet_step (with_reducible exact Since.call (HFL.out _)))
        refine wpQuiet_nil ?_
        intro w9 hb9
        have HX9 : Hid (SBlk w9 x5 (n : Int) S R) := HX8.out.below hb9 l8
        have HB9 := Lib.hid hb9
        obtain ⟨e0, e1, e2, h0, h1, h2, l9⟩ := HX9.out.cells
        obtain ⟨wc, hwc⟩ : ∃ x, w9.setCell ⟨x5, 2, none⟩ (.string (R.extract 0 j ++ u ++ R.extract (j + 1) N)) = x := ⟨_, rfl⟩
        have HC9 : Hid (SBlk wc x5 (n : Int) S (R.extract 0 j ++ u ++ R.extract (j + 1) N) ∧ Below w.heap.size w wc ∧ SBlk wc w.heap.size 0 ⟨#[]⟩ ⟨#[]⟩) := by
          rw [← hwc]
          exact ⟨HX9.out.set2, (HBL8.out.trans (HB9.out.mono HBL8.out.size)).setCell (by show _ ≤ x5; omega) _, (HO8.out.below HB9.out HO8.out.cells.2.2.2.2.2.2).below ((Below.refl (w.heap.size + 1) w9).setCell (by show _ ≤ x5; omega) _) (by omega)⟩
        have HWC := Lib.hid hwc
        obtain ⟨R', hRe⟩ : ∃ x, (R.extract 0 j ++ u ++ R.extract (j + 1) N) = x := ⟨_, rfl⟩
        rw [hRe] at HC9 HWC HUZ
        have HRE := Lib.hid hRe
        have HFZ : Hid (wc.cell? ⟨w.heap.size, 0, none⟩ = some (.int .i64 0)) := HC9.out.2.2.cells.1
        clear hb9 q2 c0 c1 c2 f0 f1 f2 hRe hwc
        go_upto_region 10 with fail
        rw [HRE.out, HWC.out]
        clear e0 e1 e2 h0 h1 h2 l9
        obtain ⟨e0, e1, e2, _, _, _, l9⟩ := HC9.out.1.cells
        obtain ⟨d0, d1, d2, g0, g1, g2, hbc⟩ := HC9.out.2.2.cells
        have HP : Hid (StrL w (.returned (strV (n : Int) S R')) (((wc.setCell ⟨w.heap.size, 0, none⟩ (.int .i64 (n : Int))).setCell ⟨w.heap.size, 1, none⟩ (.string S)).setCell ⟨w.heap.size, 2, none⟩ (.string R'))) :=
          ⟨(n : Int), S, R', by omega, by omega, by omega, HUZ.out, rfl, ((HC9.out.2.1.setCell (Nat.le_refl _) _).setCell (Nat.le_refl _) _).setCell (Nat.le_refl _) _⟩
        go_wp2_with fail
        refine bodyPost_ret (v := strV (n : Int) S R') ?_ rfl HP.out
        exact results_str rfl rfl HC9.out.2.2.set3
      · have hv1B : (v == 1) = false := by simpa using hv1
        obtain ⟨c0, c1, c2, f0, f1, f2, l7⟩ := HX7.out.cells
        obtain ⟨d0, d1, d2, g0, g1, g2, hbc⟩ := HO7.out.cells
        have HP : Hid (StrL w (.returned (strV (n : Int) S R)) (((w7.setCell ⟨w.heap.size, 0, none⟩ (.int .i64 (n : Int))).setCell ⟨w.heap.size, 1, none⟩ (.string S)).setCell ⟨w.heap.size, 2, none⟩ (.string R))) :=
          ⟨(n : Int), S, R, by omega, by omega, by omega, by omega, rfl, ((HBL7.out.setCell (Nat.le_refl _) _).setCell (Nat.le_refl _) _).setCell (Nat.le_refl _) _⟩
        go_wp2_with fail
        refine bodyPost_ret (v := strV (n : Int) S R) ?_ rfl HP.out
        exact results_str rfl rfl HO7.out.set3
end Go.Proofs.YtjepegkbbbebkaaDoor
namespace Go.Proofs.YtjepegkbbbebkaaDoor
open Go.RowKit
set_option linter.unusedVariables false
set_option maxRecDepth 100000

theorem rowLen38 {k : IntKind} {w : World} {a : Option Addr} {len cap : Nat} {zs : List Int} (h : IsRow k w a len cap zs) : len ≤ maxLen := by
  rcases h with ⟨_, h, _⟩ | ⟨_, _, h1, h2, _⟩
  · rw [h]; decide
  · omega
theorem nat_valid38 {n : Int} {S R : ByteArray} (h : validB n S R = true) : ∃ m : Nat, n = (m : Int) := by
  have h0 := h
  unfold validB inB at h0
  simp at h0
  exact Int.eq_ofNat_of_zero_le (by omega)
theorem wo_bad38 {n : Int} {S R : ByteArray} (h : validB n S R = false) : woB n S R = none := by
  unfold woB; rw [h]; rfl
theorem not_both38 {n : Nat} {S R : ByteArray} (hv : validB n S R = true) (h : woB n S R = none) : Fm.holds (stOf n S R) phiIs (fun _ => 0) = false ∨ Fm.holds (stOf n S R) phiWay (fun _ => 0) = false := by
  cases h1 : Fm.holds (stOf n S R) phiIs (fun _ => 0) with
  | false => exact .inl rfl
  | true =>
    cases h2 : Fm.holds (stOf n S R) phiWay (fun _ => 0) with
    | false => exact .inr rfl
    | true =>
      obtain ⟨s, hs⟩ := wo_of_lin hv (lin_iff.1 (by rw [h1, h2]; rfl))
      rw [h] at hs; cases hs
theorem both38 {n : Nat} {S R : ByteArray} (h : LinO n R) : Fm.holds (stOf n S R) phiIs (fun _ => 0) = true ∧ Fm.holds (stOf n S R) phiWay (fun _ => 0) = true := by
  have := (lin_iff (S := S) (e := fun _ => 0)).2 h
  rwa [Bool.and_eq_true] at this
theorem implStructValid38 (n : Int) (S R : ByteArray) (hS : S.size ≤ 9223372036854775807) (hR : R.size ≤ 9223372036854775807) (w : World) :
    Calls Tryd.prog 11 #[strV n S R] w fun e w' => e = .returned (.bool (validB n S R)) ∧ Below w.heap.size w w' := by
  have HIS := Lib.hid (fun w => isStructure_any n S R w hS hR)
  have HB : Hid (SBlk (boxS w n S R) w.heap.size n S R ∧ Below w.heap.size w (boxS w n S R)) := ⟨boxS_SBlk _ _ _ _, boxS_below _ _ _ _⟩
  unfold boxS at HB
  generalize validB n S R = b at *
  unfold strV at HIS
  unfold strV
  go_enter Tryd.func11, Tryd.ntmps11
  go_wp2_with fail
  refine (HIS.out _).mono ?_; rintro e w1 ⟨rfl, hb1⟩
  have HB1 := Lib.hid (HB.out.2.trans (hb1.mono HB.out.2.size))
  clear hb1
  go_wp2_with fail
  go_ret
  exact ⟨rfl, HB1.out⟩
set_option maxHeartbeats 4000000 in
theorem fnWordOf_walk (a0 : Option Addr) (len0 cap0 : Nat) (z0 : List Int) (w : World) (w0 : IsRow .u8 w a0 len0 cap0 z0) :
    Calls Tryd.prog 3 #[.slice a0 len0 cap0] w fun e w' => e = .returned (.bool true) ∧ Below w.heap.size w w' := by
  have m0 := rowLen38 w0
  unfold maxLen at m0
  have W0 := Lib.hid w0; clear w0
  by_cases l0 : (len0 : Int) ≤ 1048576
  · go_enter Tryd.func3, Tryd.ntmps3
    go_wp2_with fail
    refine (DrawWordOf_any _ _ _ _ _ W0.out).mono ?_; rintro e w1 ⟨n, S, R, n0, n1, hS, hR, rfl, hb⟩
    have HB1 := Lib.hid hb; clear hb
    have HI := Lib.hid (fun w => implWordOf_any n S R (by omega) (by omega) w)
    have HS := Lib.hid (fun w => specWordOf_any n S R (by omega) (by omega) w)
    have HSV := Lib.hid (fun w => implStructValid38 n S R (by omega) (by omega) w)
    have HSS := Lib.hid (fun m S2 R2 h1 h2 w => SameShape_any n S R m S2 R2 (by omega) (by omega) h1 h2 w)
    cases hv : validB n S R
    · have HH1 := Lib.hid (fun w => implHoldsIn_no isT (by decide) n S R (by omega) (by omega) hv w)
      have HH2 := Lib.hid (fun w => implHoldsIn_no wayT (by decide) n S R (by omega) (by omega) hv w)
      rw [wo_bad38 hv] at HI HS
      rw [hv] at HSV
      unfold strV at HI HS HSV HH1 HH2 HSS ⊢
      unfold woV at HI HS
      unfold isT at HH1
      unfold wayT at HH2
      clear hv HSS
      have hal : Below w1.heap.size w1 (w1.alloc (.cells #[.int .i64 n, .string S, .string R] 24)) := (Below.refl _ _).alloc (Nat.le_refl _) _
      have HB2 := Lib.hid (HB1.out.trans (hal.mono HB1.out.size))
      have HXa2 : Hid (SBlk (w1.alloc (.cells #[.int .i64 n, .string S, .string R] 24)) w1.heap.size n S R) := SBlk.new w1 n S R
      clear hal
      obtain ⟨ca0, ca1, ca2, fa0, fa1, fa2, ba⟩ := HXa2.out.cells
      go_wp2_with fail
      refine (HI.out _).mono ?_; rintro e w3 ⟨rfl, hb⟩
      have HB3 := Lib.hid (HB2.out.trans (hb.mono HB2.out.size))
      have HXa3 := Lib.hid (HXa2.out.below hb HXa2.out.cells.2.2.2.2.2.2)
      clear hb
      clear ca0 ca1 ca2 fa0 fa1 fa2 ba
      obtain ⟨ca0, ca1, ca2, fa0, fa1, fa2, ba⟩ := HXa3.out.cells
      go_wp2_with fail
      refine (HS.out _).mono ?_; rintro e w4 ⟨rfl, hb⟩
      have HB4 := Lib.hid (HB3.out.trans (hb.mono HB3.out.size))
      have HXa4 := Lib.hid (HXa3.out.below hb HXa3.out.cells.2.2.2.2.2.2)
      clear hb
      clear ca0 ca1 ca2 fa0 fa1 fa2 ba
      obtain ⟨ca0, ca1, ca2, fa0, fa1, fa2, ba⟩ := HXa4.out.cells
      go_wp2_with fail
      refine (HH1.out _).mono ?_; rintro e w5 ⟨rfl, hb⟩
      have HB5 := Lib.hid (HB4.out.trans (hb.mono HB4.out.size))
      have HXa5 := Lib.hid (HXa4.out.below hb HXa4.out.cells.2.2.2.2.2.2)
      clear hb
      clear ca0 ca1 ca2 fa0 fa1 fa2 ba
      obtain ⟨ca0, ca1, ca2, fa0, fa1, fa2, ba⟩ := HXa5.out.cells
      go_wp2_with fail
      refine (HH2.out _).mono ?_; rintro e w6 ⟨rfl, hb⟩
      have HB6 := Lib.hid (HB5.out.trans (hb.mono HB5.out.size))
      have HXa6 := Lib.hid (HXa5.out.below hb HXa5.out.cells.2.2.2.2.2.2)
      clear hb
      clear ca0 ca1 ca2 fa0 fa1 fa2 ba
      obtain ⟨ca0, ca1, ca2, fa0, fa1, fa2, ba⟩ := HXa6.out.cells
      go_wp2_with fail
      refine (HSV.out _).mono ?_; rintro e w7 ⟨rfl, hb⟩
      have HB7 := Lib.hid (HB6.out.trans (hb.mono HB6.out.size))
      have HXa7 := Lib.hid (HXa6.out.below hb HXa6.out.cells.2.2.2.2.2.2)
      clear hb
      clear ca0 ca1 ca2 fa0 fa1 fa2 ba
      go_wp2_with fail
      go_ret
      exact ⟨rfl, HB7.out⟩
    · obtain ⟨m, rfl⟩ := nat_valid38 hv
      have HV := Lib.hid hv
      have HH1 := Lib.hid (fun w => implHoldsIn_any isT (by decide) m S R HV.out w)
      have HH2 := Lib.hid (fun w => implHoldsIn_any wayT (by decide) m S R HV.out w)
      rw [isT_hin] at HH1
      rw [wayT_hin] at HH2
      rw [hv] at HSV
      unfold strV at HI HS HSV HH1 HH2 HSS ⊢
      unfold isT at HH1
      unfold wayT at HH2
      clear hv
      cases hwo : woB m S R with
      | none =>
        rw [hwo] at HI HS
        unfold woV at HI HS
        have HNB := Lib.hid (not_both38 HV.out hwo)
        generalize Fm.holds (stOf m S R) phiIs (fun _ => 0) = b1 at *
        generalize Fm.holds (stOf m S R) phiWay (fun _ => 0) = b2 at *
        clear hwo HSS
        have hal : Below w1.heap.size w1 (w1.alloc (.cells #[.int .i64 (m : Int), .string S, .string R] 24)) := (Below.refl _ _).alloc (Nat.le_refl _) _
        have HB2 := Lib.hid (HB1.out.trans (hal.mono HB1.out.size))
        have HXa2 : Hid (SBlk (w1.alloc (.cells #[.int .i64 (m : Int), .string S, .string R] 24)) w1.heap.size (m : Int) S R) := SBlk.new w1 (m : Int) S R
        clear hal
        obtain ⟨ca0, ca1, ca2, fa0, fa1, fa2, ba⟩ := HXa2.out.cells
        go_wp2_with fail
        refine (HI.out _).mono ?_; rintro e w3 ⟨rfl, hb⟩
        have HB3 := Lib.hid (HB2.out.trans (hb.mono HB2.out.size))
        have HXa3 := Lib.hid (HXa2.out.below hb HXa2.out.cells.2.2.2.2.2.2)
        clear hb
        clear ca0 ca1 ca2 fa0 fa1 fa2 ba
        obtain ⟨ca0, ca1, ca2, fa0, fa1, fa2, ba⟩ := HXa3.out.cells
        go_wp2_with fail
        refine (HS.out _).mono ?_; rintro e w4 ⟨rfl, hb⟩
        have HB4 := Lib.hid (HB3.out.trans (hb.mono HB3.out.size))
        have HXa4 := Lib.hid (HXa3.out.below hb HXa3.out.cells.2.2.2.2.2.2)
        clear hb
        clear ca0 ca1 ca2 fa0 fa1 fa2 ba
        obtain ⟨ca0, ca1, ca2, fa0, fa1, fa2, ba⟩ := HXa4.out.cells
        go_wp2_with fail
        refine (HH1.out _).mono ?_; rintro e w5 ⟨rfl, hb⟩
        have HB5 := Lib.hid (HB4.out.trans (hb.mono HB4.out.size))
        have HXa5 := Lib.hid (HXa4.out.below hb HXa4.out.cells.2.2.2.2.2.2)
        clear hb
        clear ca0 ca1 ca2 fa0 fa1 fa2 ba
        obtain ⟨ca0, ca1, ca2, fa0, fa1, fa2, ba⟩ := HXa5.out.cells
        go_wp2_with fail
        refine (HH2.out _).mono ?_; rintro e w6 ⟨rfl, hb⟩
        have HB6 := Lib.hid (HB5.out.trans (hb.mono HB5.out.size))
        have HXa6 := Lib.hid (HXa5.out.below hb HXa5.out.cells.2.2.2.2.2.2)
        clear hb
        clear ca0 ca1 ca2 fa0 fa1 fa2 ba
        obtain ⟨ca0, ca1, ca2, fa0, fa1, fa2, ba⟩ := HXa6.out.cells
        go_wp2_with fail
        refine (HSV.out _).mono ?_; rintro e w7 ⟨rfl, hb⟩
        have HB7 := Lib.hid (HB6.out.trans (hb.mono HB6.out.size))
        have HXa7 := Lib.hid (HXa6.out.below hb HXa6.out.cells.2.2.2.2.2.2)
        clear hb
        clear ca0 ca1 ca2 fa0 fa1 fa2 ba
        rcases HNB.out with rfl | rfl
        · go_wp2_with fail
          go_ret
          exact ⟨rfl, HB7.out⟩
        · cases b1
          all_goals
            go_wp2_with fail
            go_ret
            exact ⟨rfl, HB7.out⟩
      | some s =>
        rw [hwo] at HI HS
        unfold woV at HI HS
        obtain ⟨hL, hz, hss⟩ := lin_of_wo HV.out hwo
        have hwb := wordB_of_wo HV.out hL hwo
        have hb8 := word_size8 hwb
        have HW := Lib.hid (fun w => implWordStructure_any s w (by omega))
        unfold wordRes at HW
        rw [hwb] at HW
        simp only [if_true] at HW
        unfold wordV strV at HW
        rw [(both38 hL (S := S)).1] at HH1
        rw [(both38 hL (S := S)).2] at HH2
        have h1 := HSS.out s.size (bitsOf (letB s) s.size) (gridOf ltB s.size) (by rw [bitsOf_size]; omega) (by unfold gridOf; rw [bitsOf_size]; have := Nat.mul_le_mul hb8.2 hb8.2; omega)
        rw [ssB_symm, hss] at h1
        have HC := Lib.hid h1
        have HZ := Lib.hid hz
        generalize bitsOf (letB s) s.size = TS at *
        generalize gridOf ltB s.size = TR at *
        clear hwo HSS h1 hss hwb hL
        rw [hz] at HW HC
        clear hz
        have hal : Below w1.heap.size w1 (w1.alloc (.cells #[.int .i64 (m : Int), .string S, .string R] 24)) := (Below.refl _ _).alloc (Nat.le_refl _) _
        have HB2 := Lib.hid (HB1.out.trans (hal.mono HB1.out.size))
        have HXa2 : Hid (SBlk (w1.alloc (.cells #[.int .i64 (m : Int), .string S, .string R] 24)) w1.heap.size (m : Int) S R) := SBlk.new w1 (m : Int) S R
        clear hal
        obtain ⟨ca0, ca1, ca2, fa0, fa1, fa2, ba⟩ := HXa2.out.cells
        go_wp2_with fail
        refine (HI.out _).mono ?_; rintro e w3 ⟨rfl, hb⟩
        have HB3 := Lib.hid (HB2.out.trans (hb.mono HB2.out.size))
        have HXa3 := Lib.hid (HXa2.out.below hb HXa2.out.cells.2.2.2.2.2.2)
        clear hb
        clear ca0 ca1 ca2 fa0 fa1 fa2 ba
        obtain ⟨ca0, ca1, ca2, fa0, fa1, fa2, ba⟩ := HXa3.out.cells
        go_wp2_with fail
        refine (HS.out _).mono ?_; rintro e w4 ⟨rfl, hb⟩
        have HB4 := Lib.hid (HB3.out.trans (hb.mono HB3.out.size))
        have HXa4 := Lib.hid (HXa3.out.below hb HXa3.out.cells.2.2.2.2.2.2)
        clear hb
        clear ca0 ca1 ca2 fa0 fa1 fa2 ba
        obtain ⟨ca0, ca1, ca2, fa0, fa1, fa2, ba⟩ := HXa4.out.cells
        go_wp2_with fail
        refine (HH1.out _).mono ?_; rintro e w5 ⟨rfl, hb⟩
        have HB5 := Lib.hid (HB4.out.trans (hb.mono HB4.out.size))
        have HXa5 := Lib.hid (HXa4.out.below hb HXa4.out.cells.2.2.2.2.2.2)
        clear hb
        clear ca0 ca1 ca2 fa0 fa1 fa2 ba
        obtain ⟨ca0, ca1, ca2, fa0, fa1, fa2, ba⟩ := HXa5.out.cells
        go_wp2_with fail
        refine (HH2.out _).mono ?_; rintro e w6 ⟨rfl, hb⟩
        have HB6 := Lib.hid (HB5.out.trans (hb.mono HB5.out.size))
        have HXa6 := Lib.hid (HXa5.out.below hb HXa5.out.cells.2.2.2.2.2.2)
        clear hb
        clear ca0 ca1 ca2 fa0 fa1 fa2 ba
        obtain ⟨ca0, ca1, ca2, fa0, fa1, fa2, ba⟩ := HXa6.out.cells
        go_wp2_with fail
        refine (HW.out _).mono ?_; rintro e w7 ⟨rfl, hb⟩
        have HB7 := Lib.hid (HB6.out.trans (hb.mono HB6.out.size))
        have HXa7 := Lib.hid (HXa6.out.below hb HXa6.out.cells.2.2.2.2.2.2)
        clear hb
        clear ca0 ca1 ca2 fa0 fa1 fa2 ba
        obtain ⟨ca0, ca1, ca2, fa0, fa1, fa2, ba⟩ := HXa7.out.cells
        have hal : Below w7.heap.size w7 (w7.alloc (.cells #[.int .i64 (m : Int), .string TS, .string TR] 24)) := (Below.refl _ _).alloc (Nat.le_refl _) _
        have HB8 := Lib.hid (HB7.out.trans (hal.mono HB7.out.size))
        have HXa8 := Lib.hid (HXa7.out.below hal HXa7.out.cells.2.2.2.2.2.2)
        have HXb8 : Hid (SBlk (w7.alloc (.cells #[.int .i64 (m : Int), .string TS, .string TR] 24)) w7.heap.size (m : Int) TS TR) := SBlk.new w7 (m : Int) TS TR
        clear hal
        clear ca0 ca1 ca2 fa0 fa1 fa2 ba
        obtain ⟨ca0, ca1, ca2, fa0, fa1, fa2, ba⟩ := HXa8.out.cells
        obtain ⟨cb0, cb1, cb2, fb0, fb1, fb2, bb⟩ := HXb8.out.cells
        go_wp2_with fail
        refine (HC.out _).mono ?_; rintro e w9 ⟨⟨vv, rfl⟩, hb⟩
        have HB9 := Lib.hid (HB8.out.trans (hb.mono HB8.out.size))
        have HXa9 := Lib.hid (HXa8.out.below hb HXa8.out.cells.2.2.2.2.2.2)
        have HXb9 := Lib.hid (HXb8.out.below hb HXb8.out.cells.2.2.2.2.2.2)
        clear hb
        clear ca0 ca1 ca2 fa0 fa1 fa2 ba cb0 cb1 cb2 fb0 fb1 fb2 bb
        obtain ⟨ca0, ca1, ca2, fa0, fa1, fa2, ba⟩ := HXa9.out.cells
        have hzI : (s.size : Int) = (m : Int) := by rw [HZ.out]
        go_wp2_with fail
        go_ret
        exact ⟨rfl, HB9.out⟩
  · go_enter Tryd.func3, Tryd.ntmps3
    go_wp2_with fail
    go_ret
    exact ⟨rfl, Below.refl _ _⟩
end Go.Proofs.YtjepegkbbbebkaaDoor
