/- Contracts of the program's functions and what they compute: part 41. Conditions: those that each theorem states. -/
import Derived.Test.YtofmagiahmmmgaaGreatDoorP53n1
import Derived.Test.YtofmagiahmmmgaaGreatDoorP53n40
import Derived.Deep.Quiet
namespace Go.Proofs.YtofmagiahmmmgaaGreatDoor
open Go.RowKit
set_option linter.unusedVariables false
section
variable {P : Program} {ops : Array Oper} {md : Region.Mode} {Q : Exit → Act → World → Prop}
/-- Memory is made, nothing else turns. -/
def RS (w w' : World) : Prop := ∃ s : Since w, w' = s.w
theorem RS.of {w w' : World} (h : Below w.heap.size w w') : RS w w' := ⟨⟨w', h⟩, rfl⟩
theorem RS.below {w w' : World} (h : RS w w') : Below w.heap.size w w' := by obtain ⟨s, rfl⟩ := h; exact s.below
theorem RS.refl (w : World) : RS w w := .of (Below.refl _ _)
theorem RS.trans {a b c : World} (h : RS a b) (k : RS b c) : RS a c := .of (h.below.trans (k.below.mono h.below.size))
/-- Whatever order is picked from here on, memory being made between. -/
def wpU (P : Program) (md : Region.Mode) (ops : Array Oper) (Q : Exit → Act → World → Prop) : Nat → Array Bool → Act → World → Prop
  | 0, done, a, w => Region.ready md ops done = [] ∧ ∀ w', RS w w' → Q .normal a w'
  | f + 1, done, a, w => (Region.ready md ops done = [] → ∀ w', RS w w' → Q .normal a w') ∧
    ∀ i ∈ Region.ready md ops done, ∀ w', RS w w' → wpOp P ops Q i (fun a' w2 => RS w' w2 ∧ wpU P md ops Q f (done.setIfInBounds i true) a' w2) a w'
theorem wpU.up : ∀ {f : Nat} {done : Array Bool} {a : Act} {w w' : World}, wpU P md ops Q f done a w → RS w w' → wpU P md ops Q f done a w'
  | 0, _, _, _, _, h, hw => ⟨h.1, fun w2 hr => h.2 w2 (hw.trans hr)⟩
  | f + 1, _, _, _, _, h, hw => ⟨fun h0 w2 hr => h.1 h0 w2 (hw.trans hr), fun i hi w2 hr => h.2 i hi w2 (hw.trans hr)⟩
theorem wpAny_of_U : ∀ (f : Nat) (done : Array Bool) (a : Act) (w : World), wpU P md ops Q f done a w → wpAny P md ops Q f done a w
  | 0, _, _, w, h => ⟨h.1, h.2 w (.refl w)⟩
  | f + 1, _, _, w, h => ⟨fun h0 => h.1 h0 w (.refl w), fun i hi => wpOp_mono (fun a' w' h' => wpAny_of_U f _ a' w' h'.2) (h.2 i hi w (.refl w))⟩
/-- The class of worlds in which memory has been made since. -/
def SinceC (w : World) : World → Prop := fun w2 => ∃ s : Since w, w2 = s.w
/-- One value, whatever memory has been made. -/
def YieldsR (P : Program) (ops : Array Oper) (o : Oper) (v : Value) (a : Act) (w : World) : Prop :=
  (Region.wanted o (yielded ops a.tmps) = true ∧ ∀ w', RS w w' → o.quietAt P a (SinceC w') w' v) ∨ (Region.wanted o (yielded ops a.tmps) = false ∧ v = undef)
theorem YieldsR.up {o : Oper} {v : Value} {a : Act} {w w' : World} (h : YieldsR P ops o v a w) (hw : RS w w') : YieldsR P ops o v a w' :=
  h.imp (fun h => ⟨h.1, fun w2 hr => h.2 w2 (hw.trans hr)⟩) id
theorem YieldsR.of_same {o : Oper} {v : Value} {a a' : Act} {w : World} (hy : YieldsR P ops o v a w) (he : execOp a'.eval o = execOp a.eval o)
    (hw : Region.wanted o (yielded ops a'.tmps) = Region.wanted o (yielded ops a.tmps)) : YieldsR P ops o v a' w := by
  unfold YieldsR Oper.quietAt at *
  rw [he, hw]
  exact hy
theorem YieldsR.wpOp {i : Nat} {o : Oper} {v : Value} {a : Act} {w w' : World} (hi : ops[i]? = some o) (hy : YieldsR P ops o v a w) (hw : RS w w') {K : Act → World → Prop} (h : ∀ w2, RS w' w2 → K (a.put o.dst v) w2) : wpOp P ops Q i K a w' := by
  unfold Go.wpOp
  simp only [hi]
  rcases hy with ⟨hwa, hv⟩ | ⟨hwa, rfl⟩
  · simp only [hwa, if_true]
    left
    have h3 := hv w' hw
    unfold Oper.quietAt at h3
    unfold Oper.wp
    generalize (execOp a.eval o).run P w' = r at *
    cases r with
    | ok n w1 =>
      cases n <;> simp only [Oper.quietUpon] at h3 <;> simp only [Oper.upon]
      case value u =>
        obtain ⟨e1, e2⟩ := h3
        rw [e1, e2]
        exact h _ (.refl _)
      case skip =>
        obtain ⟨e1, e2⟩ := h3
        rw [e1, ← e2]
        exact h _ (.refl _)
      case enter f args =>
        obtain ⟨e1, hc⟩ := h3
        rw [e1]
        exact hc.mono fun e w2 ⟨he, hw2⟩ => by subst he; exact h _ hw2
    | halt x w1 => simp only [Oper.quietUpon] at h3
  · simp only [hwa, Bool.false_eq_true, if_false]
    exact h _ (.refl _)
/-- An operation apart from another one: what is so of a frame with the other's value is so without it. -/
theorem wpOp_putY {j : Nat} {oi oj : Oper} {v : Value} {Y : Act → Prop} (hj : ops[j]? = some oj) (hap : oi.apart ops oj = true) (hsj : ∀ cs b, oj.op ≠ .select cs b)
    (hQ : ∀ c (a : Act) d v w, Q (.panic c) (a.put d v) w → Q (.panic c) a w) (hY : ∀ a u, Y a → Y (a.put oj.dst u)) (hYd : ∀ (a : Act) d, Y a → Y { a with defers := d :: a.defers })
    {K : Act → World → Prop} {a : Act} {w : World} (ha : Y a) (h : wpOp P ops Q j K (a.put oi.dst v) w) : wpOp P ops Q j (fun a' w' => Y a' ∧ K (a'.put oi.dst v) w') a w := by
  obtain ⟨h1, h2, h3⟩ := Oper.apart_spec hap
  unfold Go.wpOp at *
  simp only [hj] at *
  rw [wanted_put oj a oi.dst v h1] at h
  by_cases hw : Region.wanted oj (yielded ops a.tmps) = true
  · simp only [hw, if_true] at h ⊢
    rcases h with h | ⟨h4, h5⟩
    · left
      unfold Oper.wp at *
      rw [execOp_put oj hsj a oi.dst v h1] at h
      generalize (execOp a.eval oj).run P w = r at *
      cases r with
      | ok n w1 =>
        cases n <;> simp only [Oper.upon] at h ⊢
        case value u => exact ⟨hY _ _ ha, by rw [← Act.put_comm a v u h2]; exact h⟩
        case skip => exact ⟨hY _ _ ha, by rw [← Act.put_comm a v undef h2]; exact h⟩
        case defer d =>
          refine ⟨hY _ _ (hYd _ _ ha), ?_⟩
          rw [← Act.put_comm _ v undef h2, ← Act.put_defers]
          exact h
        case enter f args =>
          refine Calls.mono h fun e w2 he => ?_
          cases e with
          | returned u => exact ⟨hY _ _ ha, by rw [← Act.put_comm a v u h2]; exact he⟩
          | panicked c => exact hQ _ _ _ _ _ he
          | outgrown => exact he
        case row row args => exact Rows.mono h fun u w2 he => ⟨hY _ _ ha, by rw [← Act.put_comm a v u h2]; exact he⟩
      | halt x w1 =>
        cases x <;> simp only [Oper.upon] at h ⊢
        case panic u => exact hQ _ _ _ _ _ h
    · right
      exact ⟨by unfold Oper.asks at *; rw [execOp_put oj hsj a oi.dst v h1] at h4; exact h4, h5⟩
  · simp only [hw] at h ⊢
    exact ⟨hY _ _ ha, by rw [← Act.put_comm a v undef h2]; exact h⟩
/-- What yields one value whatever memory is made may be taken first. -/
theorem wpU_first {i : Nat} {oi : Oper} {v : Value} (hi : ops[i]? = some oi) (hsel : ∀ (j : Nat) (o : Oper) cs b, ops[j]? = some o → o.op ≠ .select cs b)
    (hQ : ∀ c (a : Act) d v w, Q (.panic c) (a.put d v) w → Q (.panic c) a w) :
    ∀ (f : Nat) (done : Array Bool) (a : Act) (w : World),
      (∀ j oj, ops[j]? = some oj → j ≠ i → done.getD j true = false → (∀ e ∈ oj.after, Region.binds md e = true → e.on ≠ i) → oi.apart ops oj = true) →
      i ∈ Region.ready md ops done → YieldsR P ops oi v a w → wpU P md ops Q f (done.setIfInBounds i true) (a.put oi.dst v) w → wpU P md ops Q (f + 1) done a w := by
  intro f
  induction f with
  | zero =>
    intro done a w _ hr hy H
    refine ⟨fun h => (by rw [h] at hr; cases hr), fun j hj w' hw => ?_⟩
    by_cases hji : j = i
    · subst hji
      exact hy.wpOp hi hw fun w2 h2 => ⟨h2, H.up (hw.trans h2)⟩
    · have := ready_mono hj hji
      rw [H.1] at this
      cases this
  | succ f ih =>
    intro done a w hfree hr hy H
    refine ⟨fun h => (by rw [h] at hr; cases hr), fun j hj w' hw => ?_⟩
    by_cases hji : j = i
    · subst hji
      exact hy.wpOp hi hw fun w2 h2 => ⟨h2, H.up (hw.trans h2)⟩
    · have h1 := H.2 j (ready_mono hj hji) w' hw
      obtain ⟨hjun, oj, hoj, hall⟩ := mem_ready.1 hj
      have hnot : ∀ e ∈ oj.after, Region.binds md e = true → e.on ≠ i := by
        rintro e he hb rfl
        have h2 := hall e he hb
        have h0 := (mem_ready.1 hr).1
        rcases Nat.lt_or_ge e.on done.size with h' | h'
        · simp [h'] at h0 h2; rw [h0] at h2; cases h2
        · simp [Array.getElem?_eq_none h'] at h2
      have hap := hfree j oj hoj hji hjun hnot
      obtain ⟨_, _, hs3⟩ := Oper.apart_spec hap
      have h2 := wpOp_putY (Y := fun a' => YieldsR P ops oi v a' w) hoj hap (fun cs b => hsel j oj cs b hoj) hQ
        (fun a u hy => hy.of_same (execOp_put oi (fun cs b => hsel i oi cs b hi) a oj.dst u hs3) (wanted_put oi a oj.dst u hs3)) (fun a d hy => hy.of_same rfl rfl) hy h1
      have hfree' : ∀ k ok, ops[k]? = some ok → k ≠ i → (done.setIfInBounds j true).getD k true = false → (∀ e ∈ ok.after, Region.binds md e = true → e.on ≠ i) → oi.apart ops ok = true := fun k ok hk hki hun hno => by
        refine hfree k ok hk hki ?_ hno
        by_cases hjk : j = k
        · subst hjk; exact hjun
        · rw [getD_set_ne true hjk] at hun; exact hun
      refine wpOp_mono (fun a' w2 h3 => ⟨h3.2.1, ih (done.setIfInBounds j true) a' w2 hfree' (ready_mono hr (Ne.symm hji)) (h3.1.up (hw.trans h3.2.1)) ?_⟩) h2
      rw [Array.setIfInBounds_comm _ _ hji]
      exact h3.2.2
/-- Some operations, each in its turn, may be taken first. -/
def batchB (md : Region.Mode) (ops : Array Oper) : List Nat → Array Bool → Bool
  | [], _ => true
  | i :: l, done => (Region.ready md ops done).contains i && Region.free md ops done i && batchB md ops l (done.setIfInBounds i true)
def setAll : List Nat → Array Bool → Array Bool
  | [], done => done
  | i :: l, done => setAll l (done.setIfInBounds i true)
theorem quiet_val {o : Oper} {a : Act} {w : World} {C1 C2 : World → Prop} {v1 v2 : Value} (h1 : o.quietAt P a C1 w v1) (h2 : o.quietAt P a C2 w v2) : v1 = v2 := by
  unfold Oper.quietAt at h1 h2
  generalize (execOp a.eval o).run P w = r at *
  cases r with
  | ok n w1 =>
    cases n <;> simp only [Oper.quietUpon] at h1 h2
    case value u => exact h1.2.symm.trans h2.2
    case skip => exact h1.2.trans h2.2.symm
    case enter f args => exact calls_val h1.2 h2.2
  | halt x w1 => simp only [Oper.quietUpon] at h1
theorem wpU_batch (hs : Region.noSelect ops = true) (hQ : ∀ c (a : Act) d v w, Q (.panic c) (a.put d v) w → Q (.panic c) a w) {f : Nat} : ∀ (idx : List Nat) (l : List Oper) (done : Array Bool) (a : Act) (w : World), idx.map (fun i => ops[i]?) = l.map some → batchB md ops idx done = true →
    (∀ w', RS w w' → ∀ K : Act → Prop, (∀ a', wpU P md ops Q f (setAll idx done) a' w → K a') → wpQuiet P ops (SinceC w') K l a) → wpU P md ops Q (f + idx.length) done a w
  | [], [], done, a, w, _, _, h => h w (.refl w) (fun a' => wpU P md ops Q f done a' w) (fun _ h => h)
  | [], _ :: _, _, _, _, h, _, _ => by simp at h
  | _ :: _, [], _, _, _, h, _, _ => by simp at h
  | i :: idx, o :: l, done, a, w, hl, hB, h => by
    have h0 : ops[i]? = some o := by simpa using (List.cons.inj hl).1
    have hl' : idx.map (fun i => ops[i]?) = l.map some := (List.cons.inj hl).2
    simp only [batchB, Bool.and_eq_true] at hB
    obtain ⟨⟨hr, hf⟩, hB'⟩ := hB
    have hfree := Region.free_spec h0 hf
    have hrm : i ∈ Region.ready md ops done := by simpa using hr
    by_cases hw : Region.wanted o (yielded ops a.tmps) = true
    · have hq : ∀ w', RS w w' → ∀ K : Act → Prop, (∀ a', wpU P md ops Q f (setAll (i :: idx) done) a' w → K a') → o.quiet P a (SinceC w') (wpQuiet P ops (SinceC w') K l) := fun w' hw' K hK => by
        have := h w' hw' K hK
        unfold wpQuiet at this
        rw [if_pos hw] at this
        exact this
      obtain ⟨v, hv, _⟩ := hq w (.refl w) (fun _ => True) (fun _ _ => trivial)
      have same : ∀ w' (hw' : RS w w') v', (∀ w2, SinceC w' w2 → o.quietAt P a (SinceC w') w2 v') → v' = v := fun w' hw' v' hv' => quiet_val (hv' w' ⟨Since.refl w', rfl⟩) (hv w' hw')
      have hy : YieldsR P ops o v a w := .inl ⟨hw, fun w' hw' => by
        obtain ⟨v', hv', _⟩ := hq w' hw' (fun _ => True) (fun _ _ => trivial)
        rw [← same w' hw' v' hv']
        exact hv' w' ⟨Since.refl w', rfl⟩⟩
      refine wpU_first h0 (Region.noSelect_spec hs) hQ (f + idx.length) done a w hfree hrm hy ?_
      refine wpU_batch hs hQ idx l _ _ w hl' hB' fun w' hw' K hK => ?_
      obtain ⟨v', hv', hn⟩ := hq w' hw' K hK
      rw [same w' hw' v' hv'] at hn
      exact hn
    · have hw' : Region.wanted o (yielded ops a.tmps) = false := by simpa using hw
      refine wpU_first h0 (Region.noSelect_spec hs) hQ (f + idx.length) done a w hfree hrm (.inr ⟨hw', rfl⟩) ?_
      refine wpU_batch hs hQ idx l _ _ w hl' hB' fun w1 hw1 K hK => ?_
      have := h w1 hw1 K hK
      unfold wpQuiet at this
      rw [if_neg hw] at this
      exact this
theorem wpU_batch_at (n f : Nat) (idx : List Nat) (l : List Oper) {done : Array Bool} {a : Act} {w : World} (hn : n = f + idx.length) (hs : Region.noSelect ops = true) (hQ : ∀ c (a : Act) d v w, Q (.panic c) (a.put d v) w → Q (.panic c) a w) (hl : idx.map (fun i => ops[i]?) = l.map some) (hB : batchB md ops idx done = true)
    (h : ∀ w', RS w w' → ∀ K : Act → Prop, (∀ a', wpU P md ops Q f (setAll idx done) a' w → K a') → wpQuiet P ops (fun w2 => ∃ s : Since w', w2 = s.w) K l a) : wpU P md ops Q n done a w := by
  rw [hn]
  exact wpU_batch hs hQ idx l done a w hl hB h
theorem seg_ops (L : List Oper) (s k : Nat) (h : s + k ≤ L.length) : ((List.range k).map (· + s)).map (fun i => L.toArray[i]?) = ((L.drop s).take k).map some := by
  apply List.ext_getElem?
  intro i
  simp only [List.getElem?_map, List.getElem?_take, List.getElem?_drop, List.getElem?_toArray]
  by_cases hi : i < k
  · simp only [List.getElem?_range hi, Option.map_some, if_pos hi]
    rw [Nat.add_comm i s, List.getElem?_eq_getElem (by omega)]
    rfl
  · rw [List.getElem?_eq_none (by simpa using hi), if_neg hi]
    rfl
/-- A piece of the text, in its order. -/
theorem wpU_seg {L : List Oper} (n f s k : Nat) {done : Array Bool} {a : Act} {w : World} (hn : n = f + k) (hk : s + k ≤ L.length) (hs : Region.noSelect L.toArray = true) (hQ : ∀ c (a : Act) d v w, Q (.panic c) (a.put d v) w → Q (.panic c) a w) (hB : batchB md L.toArray ((List.range k).map (· + s)) done = true)
    (h : ∀ w', RS w w' → ∀ K : Act → Prop, (∀ a', wpU P md L.toArray Q f (setAll ((List.range k).map (· + s)) done) a' w → K a') → wpQuiet P L.toArray (fun w2 => ∃ s : Since w', w2 = s.w) K ((L.drop s).take k) a) : wpU P md L.toArray Q n done a w :=
  wpU_batch_at n f _ _ (by rw [hn]; simp) hs hQ (seg_ops L s k hk) hB h
/-- The only operation that may come up. -/
theorem wpU_only {f i : Nat} {o : Oper} {done : Array Bool} {a : Act} {w : World} (ho : ops[i]? = some o) (hr : Region.ready md ops done = [i]) (hw : Region.wanted o (yielded ops a.tmps) = true)
    (h : ∀ w', RS w w' → o.wp P a w' (fun a' w2 => RS w' w2 ∧ wpU P md ops Q f (done.setIfInBounds i true) a' w2) Q) : wpU P md ops Q (f + 1) done a w :=
  ⟨fun h0 => (by rw [hr] at h0; cases h0), fun j hj w' hw' => by
    rw [hr] at hj
    obtain rfl := List.mem_singleton.1 hj
    unfold Go.wpOp
    simp only [ho, hw, if_true]
    exact .inl (h w' hw')⟩
/-- The first of some operations is met. -/
def wpHead (P : Program) (md : Region.Mode) (ops : Array Oper) (Q : Exit → Act → World → Prop) (f s : Nat) (done : Array Bool) (a : Act) (w : World) : List Oper → Prop
  | [] => False
  | o :: _ => Region.wanted o (yielded ops a.tmps) = true ∧ o.wp P a w (fun a' w2 => RS w w2 ∧ wpU P md ops Q f (done.setIfInBounds s true) a' w2) Q
theorem wpU_at {L : List Oper} (n f s : Nat) {done : Array Bool} {a : Act} {w : World} (hn : n = f + 1) (hr : Region.ready md L.toArray done = [s])
    (h : ∀ w', RS w w' → wpHead P md L.toArray Q f s done a w' (L.drop s)) : wpU P md L.toArray Q n done a w := by
  rw [hn]
  cases hd : L.drop s with
  | nil =>
    have := h w (.refl w)
    rw [hd] at this
    exact this.elim
  | cons o r =>
    have ho : L.toArray[s]? = some o := by
      rw [List.getElem?_toArray]
      have : (L.drop s)[0]? = some o := by rw [hd]; rfl
      rw [List.getElem?_drop] at this
      exact this
    have hw : Region.wanted o (yielded L.toArray a.tmps) = true := by
      have := h w (.refl w)
      rw [hd] at this
      exact this.1
    refine wpU_only ho hr hw fun w' hw' => ?_
    have := h w' hw'
    rw [hd] at this
    exact this.2
theorem wp_value {o : Oper} {a : Act} {w w2 : World} {v : Value} {K : Act → World → Prop} (hr : (execOp a.eval o).run P w = .ok (.value v) w2) (hk : K (a.put o.dst v) w2) : o.wp P a w K Q := by
  unfold Oper.wp
  rw [hr]
  exact hk
theorem wp_region_U {id : Nat} {a : Act} {w : World} (hm : P.follows .mixedOrders = true) (h : wpU P .any ops Q ops.size (Array.replicate ops.size false) a w) : (Code.region id ops true).wp P Q a w :=
  wp_region_any hm (wpAny_of_U _ _ _ _ (h.up (.of ⟨rfl, rfl, rfl, Nat.le_refl _, fun _ _ => rfl⟩)))
end
end Go.Proofs.YtofmagiahmmmgaaGreatDoor
