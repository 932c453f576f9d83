/- The holder's map: a truth that is asked for, a formula that is new, a truth that is kept. No condition but that what is there is right. -/
import Derived.Test.YtadgiknnejjplaaDoorEver
namespace Go.Proofs.YtadgiknnejjplaaDoor
open Go.RowKit
set_option linter.unusedVariables false
set_option maxRecDepth 100000

theorem ptrInfo5 : (Tryd.prog.info? 108).map (·.size) = some 5 := by kernel_rfl
theorem ptr_info : ∃ j : TypeInfo, Tryd.prog.info? 108 = some j ∧ j.size ≠ 0 := by
  cases h : Tryd.prog.info? 108 with
  | none => have := ptrInfo5; rw [h] at this; cases this
  | some j =>
    refine ⟨j, rfl, ?_⟩
    have h5 := ptrInfo5
    rw [h] at h5
    have h5 : j.size = 5 := Option.some.inj h5
    omega
section
variable {F G : Nat → Prop} {w : World} {kb : Nat} {a : Gs.St} {φ : Fm.T} {p : Nat}
theorem memo_found (h : Memo F G w kb a) (hT : Tree F w φ p) {es : Array MapEntry} (hes : ∀ x ∈ es.toList, ∃ (q r : Nat) (ψ : Fm.T), x.key = ptrV q ∧ x.val = .map (some r) ∧ Tree F w ψ q ∧ G r ∧ r ≠ kb ∧ Known w a ψ r) :
    Found Tryd.prog w 82 (ptrV p) es.toList := by
  obtain ⟨j, hj, hj5⟩ := ptr_info
  obtain ⟨_, cp, tp, hp⟩ := hT.ptr
  exact found_ptr Tryd.underlying82 hj hj5 p hp _ (fun e he => by
    obtain ⟨q, r, ψ, e1, e2, t, _⟩ := hes e he
    rw [e1]; exact ⟨q, t.ptr⟩)
theorem map_look {w : World} {b clock : Nat} {es : Array MapEntry} {x : Value} (hb : w.heap[b]? = some (.map es clock)) (hf : Found Tryd.prog w 82 x es.toList) (a : Option Addr) (hx : x = .pointer a) :
    ((Instr.lookup 135 (.map (some b)) x false).run Tryd.prog w = .ok (.map none) w ∧ ∀ e ∈ es.toList, e.key ≠ x) ∨
    ∃ e0 ∈ es.toList, e0.key = x ∧ (Instr.lookup 135 (.map (some b)) x false).run Tryd.prog w = .ok e0.val w := by
  subst hx
  exact lookup_map false Tryd.underlying135 hb (fun em => check_ptr Tryd.underlying82 em _) hf (Tryd.zeroValue173 w)
theorem int_look {w : World} {b clock : Nat} {es : Array MapEntry} {z : Int} (hb : w.heap[b]? = some (.map es clock)) (hf : Found Tryd.prog w 3 (.int .i64 z) es.toList) :
    ((Instr.lookup 173 (.map (some b)) (.int .i64 z) true).run Tryd.prog w = .ok (.tuple #[.bool false, .bool false]) w ∧ ∀ e ∈ es.toList, e.key ≠ .int .i64 z) ∨
    ∃ e0 ∈ es.toList, e0.key = .int .i64 z ∧ (Instr.lookup 173 (.map (some b)) (.int .i64 z) true).run Tryd.prog w = .ok (.tuple #[e0.val, .bool true]) w :=
  lookup_map true Tryd.underlying173 hb (fun em => check_int Tryd.underlying3 em _) hf (Tryd.zeroValue4 w)
/-- The formula is looked up: nothing, or its own map. -/
theorem memo_look (h : Memo F G w kb a) (hT : Tree F w φ p) :
    ((Instr.lookup 135 (.map (some kb)) (ptrV p) false).run Tryd.prog w = .ok (.map none) w ∧ ∃ es clock, w.heap[kb]? = some (.map es clock) ∧ ∀ e ∈ es.toList, e.key ≠ ptrV p) ∨
    ∃ r, (Instr.lookup 135 (.map (some kb)) (ptrV p) false).run Tryd.prog w = .ok (.map (some r)) w ∧ G r ∧ r ≠ kb ∧ Known w a φ r ∧ ∃ es clock, w.heap[kb]? = some (.map es clock) ∧ ∃ e ∈ es.toList, e.key = ptrV p ∧ e.val = .map (some r) := by
  obtain ⟨es, clock, hb, hes, _⟩ := h.map
  rcases map_look hb (memo_found h hT hes) _ rfl with ⟨h1, h2⟩ | ⟨e0, h1, h2, h3⟩
  · exact .inl ⟨h1, es, clock, hb, h2⟩
  · obtain ⟨q, r, ψ, e1, e2, t, g, n, k⟩ := hes e0 h1
    have hqp : q = p := by
      rw [h2] at e1
      unfold ptrV at e1
      injection e1 with e1; injection e1 with e1; injection e1 with e1
      exact e1.symm
    subst hqp
    have hψ : ψ = φ := Tree.inj _ (Nat.le_refl _) t hT
    subst hψ
    refine .inr ⟨r, ?_, g, n, k, es, clock, hb, e0, h1, h2, e2⟩
    rw [← e2]; exact h3
theorem known_found {es : Array MapEntry} (hes : ∀ y ∈ es.toList, ∃ (k : Nat) (b : Bool), y.key = .int .i64 (k : Int) ∧ y.val = .bool b ∧ ∀ e : Fm.Env, (∀ v, e v < 8) → Fm.keyN φ e = k → b = Fm.holds a φ e) (z : Int) : Found Tryd.prog w 3 (.int .i64 z) es.toList :=
  found_int Tryd.underlying3 z _ (fun e he => by
    obtain ⟨k, b, e1, _⟩ := hes e he
    exact ⟨_, e1⟩)
/-- A truth is asked for. -/
theorem known_look {r : Nat} (hk : Known w a φ r) {e : Fm.Env} (he : ∀ v, e v < 8) :
    ∃ b ok : Bool, (Instr.lookup 173 (.map (some r)) (.int .i64 ((Fm.keyN φ e : Nat) : Int)) true).run Tryd.prog w = .ok (.tuple #[.bool b, .bool ok]) w ∧ (ok = true → b = Fm.holds a φ e) := by
  obtain ⟨es, clock, hb, hes⟩ := hk
  rcases int_look hb (known_found hes _) with ⟨h1, _⟩ | ⟨e0, h1, h2, h3⟩
  · exact ⟨false, false, h1, fun h => by cases h⟩
  · obtain ⟨k, b, e1, e2, e3⟩ := hes e0 h1
    rw [h2] at e1
    injection e1 with _ e1
    refine ⟨b, true, ?_, fun _ => e3 e he (by omega)⟩
    rw [e2] at h3
    exact h3
theorem none_look {z : Int} : (Instr.lookup 173 (.map none) (.int .i64 z) true).run Tryd.prog w = .ok (.tuple #[.bool false, .bool false]) w :=
  lookup_nil true Tryd.underlying173 Tryd.underlying3 (fun em => check_int Tryd.underlying3 em _) (Tryd.zeroValue4 w)
/-- Both look-ups. -/
theorem memo_get (h : Memo F G w kb a) (hT : Tree F w φ p) {e : Fm.Env} (he : ∀ v, e v < 8) :
    ∃ (V : Value) (b ok : Bool), (Instr.lookup 135 (.map (some kb)) (ptrV p) false).run Tryd.prog w = .ok V w ∧
      (Instr.lookup 173 V (.int .i64 ((Fm.keyN φ e : Nat) : Int)) true).run Tryd.prog w = .ok (.tuple #[.bool b, .bool ok]) w ∧ (ok = true → b = Fm.holds a φ e) := by
  rcases memo_look h hT with ⟨h1, _⟩ | ⟨r, h1, _, _, hk, _⟩
  · exact ⟨_, false, false, h1, none_look, fun h => by cases h⟩
  · obtain ⟨b, ok, h2, h3⟩ := known_look hk he
    exact ⟨_, b, ok, h1, h2, h3⟩
theorem run_put {w : World} {r clock : Nat} {es : Array MapEntry} {z : Int} (val : Value) (hb : w.heap[r]? = some (.map es clock)) (hf : Found Tryd.prog w 3 (.int .i64 z) es.toList) :
    ∃ es' clock', (Instr.mapUpdate 173 (.map (some r)) (.int .i64 z) val).run Tryd.prog w = .ok () (ChangeMaps.setBlock w r (.map es' clock')) ∧ (∀ x ∈ es'.toList, x ∈ es.toList ∨ (x.key = .int .i64 z ∧ x.val = val)) ∧ ∃ x ∈ es'.toList, x.key = .int .i64 z ∧ x.val = val :=
  update_map Tryd.underlying173 hb (fun em => check_int Tryd.underlying3 em _) hf (stays_int _ _)
theorem run_new {w : World} {b clock : Nat} {es : Array MapEntry} (a : Option Addr) (val : Value) (hb : w.heap[b]? = some (.map es clock)) (hf : Found Tryd.prog w 82 (.pointer a) es.toList) :
    ∃ es' clock', (Instr.mapUpdate 135 (.map (some b)) (.pointer a) val).run Tryd.prog w = .ok () (ChangeMaps.setBlock w b (.map es' clock')) ∧ (∀ x ∈ es'.toList, x ∈ es.toList ∨ (x.key = .pointer a ∧ x.val = val)) ∧ ∃ x ∈ es'.toList, x.key = .pointer a ∧ x.val = val :=
  update_map Tryd.underlying135 hb (fun em => check_ptr Tryd.underlying82 em _) hf (stays_ptr _)
/-- A truth is kept. -/
theorem memo_put (h : Memo F G w kb a) (hT : Tree F w φ p) {r : Nat} (hl : (Instr.lookup 135 (.map (some kb)) (ptrV p) false).run Tryd.prog w = .ok (.map (some r)) w) {e : Fm.Env} (he : ∀ v, e v < 8) :
    ∃ w', (Instr.mapUpdate 173 (.map (some r)) (.int .i64 ((Fm.keyN φ e : Nat) : Int)) (.bool (Fm.holds a φ e))).run Tryd.prog w = .ok () w' ∧ EverP F G kb a w w' := by
  rcases memo_look h hT with ⟨h1, _⟩ | ⟨r', h1, hg, hn, hk, ms, mc, m1, e0, x1, x2, x3⟩
  · rw [hl] at h1
    injection h1 with h1; injection h1 with h1; cases h1
  have hrr : r' = r := by
    rw [hl] at h1
    injection h1 with h1; injection h1 with h1; injection h1 with h1
    exact h1.symm
  subst hrr
  obtain ⟨es, clock, hb, hes⟩ := hk
  obtain ⟨es', clock', u1, u2, _⟩ := run_put (.bool (Fm.holds a φ e)) hb (known_found (a := a) (φ := φ) hes ((Fm.keyN φ e : Nat) : Int))
  have hgr := setBlock_grown hb (.map es' clock')
  have hoff : Off G w (ChangeMaps.setBlock w r' (.map es' clock')) := Off.grown hgr (fun b hb => by injection hb with hb; rw [← hb]; exact hg)
  have hsame : (ChangeMaps.setBlock w r' (.map es' clock')).heap[r']? = some (.map es' clock') := ChangeMaps.heap_setBlock_same hb _
  have hother : ∀ b, b ≠ r' → (ChangeMaps.setBlock w r' (.map es' clock')).heap[b]? = w.heap[b]? := fun b hb' => ChangeMaps.heap_setBlock_other hb _ hb'
  obtain ⟨ms2, mc2, k1, k2, k3⟩ := h.map
  have hms : ms2 = ms := by
    rw [m1] at k1
    injection k1 with k1; injection k1 with k1 _
    exact k1.symm
  subst hms
  refine ⟨_, u1, hoff, G, ⟨h.own, fun b hb => Nat.lt_of_lt_of_le (h.lt b hb) hoff.size, fun b hb => Nat.lt_of_lt_of_le (h.flt b hb) hoff.size, h.apart, ms2, mc2, (hother kb (Ne.symm hn)).trans k1, fun x hx => ?_, k3⟩, fun b hb => .inl hb⟩
  obtain ⟨q, s, ψ, e1, e2, t, g, n, k⟩ := k2 x hx
  refine ⟨q, s, ψ, e1, e2, t.off hoff h.apart, g, n, ?_⟩
  by_cases hs : s = r'
  · subst hs
    have hkey := k3 x hx e0 x1 (by rw [e2, x3])
    have hqp : q = p := by
      rw [e1, x2] at hkey
      unfold ptrV at hkey
      injection hkey with hkey; injection hkey with hkey; injection hkey with hkey
    subst hqp
    have hψ : ψ = φ := Tree.inj _ (Nat.le_refl _) t hT
    subst hψ
    refine ⟨es', clock', hsame, fun y hy => ?_⟩
    rcases u2 y hy with h3 | ⟨h3, h4⟩
    · exact hes y h3
    · exact ⟨_, _, h3, h4, fun e' he' hk' => Fm.key_holds a ψ he he' hk'.symm⟩
  · exact k.kept (hother s hs)
/-- A formula that is new gets a map. -/
theorem memo_new (h : Memo F G w kb a) (hT : Tree F w φ p) (hl : (Instr.lookup 135 (.map (some kb)) (ptrV p) false).run Tryd.prog w = .ok (.map none) w) :
    ∃ w', (Instr.mapUpdate 135 (.map (some kb)) (ptrV p) (.map (some w.heap.size))).run Tryd.prog (w.alloc (.map #[] 0)) = .ok () w' ∧ EverP F G kb a w w' ∧
      (Instr.lookup 135 (.map (some kb)) (ptrV p) false).run Tryd.prog w' = .ok (.map (some w.heap.size)) w' := by
  rcases memo_look h hT with ⟨_, ms, mc, m1, m2⟩ | ⟨r', h1, _⟩
  case inr =>
    rw [hl] at h1
    injection h1 with h1; injection h1 with h1; cases h1
  have hB : Below w.heap.size w (w.alloc (.map #[] 0)) := (Below.refl _ _).alloc (Nat.le_refl _) _
  have hM := h.below hB
  have hTT := hT.below hB
  obtain ⟨ms2, mc2, k1, k2, k3⟩ := hM.map
  have hk1 : (w.alloc (.map #[] 0)).heap[kb]? = some (.map ms mc) := (hB.block kb (h.lt _ h.own)).trans m1
  have hms : ms2 = ms := by
    rw [hk1] at k1
    injection k1 with k1; injection k1 with k1 _
    exact k1.symm
  subst hms
  have hf := memo_found hM hTT k2
  obtain ⟨es', clock', u1, u2, u3⟩ := run_new (some ⟨p, 0, none⟩) (.map (some w.heap.size)) hk1 hf
  have hgr := setBlock_grown hk1 (.map es' clock')
  have hsz : (w.alloc (.map #[] 0)).heap.size = w.heap.size + 1 := by simp
  have hoff1 : Off G (w.alloc (.map #[] 0)) (ChangeMaps.setBlock (w.alloc (.map #[] 0)) kb (.map es' clock')) := Off.grown hgr (fun b hb => by injection hb with hb; rw [← hb]; exact h.own)
  have hoff : Off G w (ChangeMaps.setBlock (w.alloc (.map #[] 0)) kb (.map es' clock')) := (Off.of_below (F := G) hB).trans hoff1 (fun b hb => .inl hb)
  have hother : ∀ b, b ≠ kb → (ChangeMaps.setBlock (w.alloc (.map #[] 0)) kb (.map es' clock')).heap[b]? = (w.alloc (.map #[] 0)).heap[b]? := fun b hb' => ChangeMaps.heap_setBlock_other hk1 _ hb'
  have hnew : (ChangeMaps.setBlock (w.alloc (.map #[] 0)) kb (.map es' clock')).heap[w.heap.size]? = some (.map #[] 0) := by
    rw [hother _ (by have := h.lt _ h.own; omega)]
    exact (MapKept.heap_alloc w (.map #[] 0)).1
  have hkb := h.lt _ h.own
  have hM' : Memo F (fun b => G b ∨ b = w.heap.size) (ChangeMaps.setBlock (w.alloc (.map #[] 0)) kb (.map es' clock')) kb a := by
    refine ⟨.inl h.own, fun b hb => ?_, fun b hf => Nat.lt_of_lt_of_le (h.flt b hf) hoff.size, fun b hf hg => ?_, es', clock', ChangeMaps.heap_setBlock_same hk1 _, fun x hx => ?_, fun x hx y hy hxy => ?_⟩
    · have hz : (ChangeMaps.setBlock (w.alloc (.map #[] 0)) kb (.map es' clock')).heap.size = w.heap.size + 1 := by simp [ChangeMaps.setBlock]
      rw [hz]
      rcases hb with hb | hb
      · have := h.lt b hb; omega
      · omega
    · rcases hg with hg | hg
      · exact h.apart b hf hg
      · have := h.flt b hf; omega
    · rcases u2 x hx with h3 | ⟨h3, h4⟩
      · obtain ⟨q, s, ψ, e1, e2, t, g, n, k⟩ := k2 x h3
        exact ⟨q, s, ψ, e1, e2, t.off hoff1 h.apart, .inl g, n, k.kept (hother s n)⟩
      · exact ⟨p, w.heap.size, φ, h3, h4, hTT.off hoff1 h.apart, .inr rfl, by omega, ⟨#[], 0, hnew, fun y hy => by simp at hy⟩⟩
    · have old : ∀ z ∈ ms2.toList, z.val ≠ .map (some w.heap.size) := fun z hz e => by
        obtain ⟨q, s, ψ, e1, e2, t, g, n, k⟩ := k2 z hz
        rw [e2] at e
        injection e with e; injection e with e
        have := h.lt s g
        omega
      rcases u2 x hx with h3 | ⟨h3, h4⟩
      · rcases u2 y hy with h5 | ⟨h5, h6⟩
        · exact k3 x h3 y h5 hxy
        · exact absurd (hxy.trans h6) (old x h3)
      · rcases u2 y hy with h5 | ⟨h5, h6⟩
        · exact absurd (hxy.symm.trans h4) (old y h5)
        · rw [h3, h5]
  refine ⟨_, u1, ⟨hoff, _, hM', fun b hb => ?_⟩, ?_⟩
  · rcases hb with hb | hb
    · exact .inl hb
    · exact .inr (by omega)
  · have hT' := hTT.off hoff1 h.apart
    rcases memo_look hM' hT' with ⟨_, ms3, mc3, k4, k5⟩ | ⟨r, h1, _, _, _, ms3, mc3, k4, e0, x1, x2, x3⟩
    · have h9 := ChangeMaps.heap_setBlock_same hk1 (.map es' clock')
      rw [h9] at k4
      injection k4 with k4; injection k4 with k4 _
      subst k4
      obtain ⟨x, v1, v2, v3⟩ := u3
      exact absurd v2 (k5 x v1)
    · have h9 := ChangeMaps.heap_setBlock_same hk1 (.map es' clock')
      rw [h9] at k4
      injection k4 with k4; injection k4 with k4 _
      subst k4
      rcases u2 e0 x1 with h3 | ⟨h3, h4⟩
      · exact absurd x2 (m2 e0 h3)
      · rw [x3] at h4
        injection h4 with h4; injection h4 with h4
        rw [← h4]; exact h1
end
end Go.Proofs.YtadgiknnejjplaaDoor
