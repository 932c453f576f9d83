/- Contracts of the program's functions and what they compute: part 13. Conditions: those that each theorem states. -/
import Derived.Test.YtihomcedaaiidaaGreatDoorP55n1
import Derived.Test.YtihomcedaaiidaaGreatDoorP55n8
import Derived.Test.YtihomcedaaiidaaGreatDoorP55n12
import Derived.Maps.Own
import Derived.LaidEqlPtr
namespace Go.Proofs.YtihomcedaaiidaaGreatDoor
open Go.RowKit
set_option linter.unusedVariables false
section
variable {P : Program} {w : World}
/-- What a search for a key gives. -/
def Found (P : Program) (w : World) (k : TypeId) (x : Value) (es : List MapEntry) : Prop :=
  ((Instr.findKey k x es).run P w = .ok none w ∧ ∀ e ∈ es, e.key ≠ x) ∨ ∃ j e, (Instr.findKey k x es).run P w = .ok (some (j, e.val)) w ∧ es[j]? = some e ∧ e.key = x
theorem found_int {k : TypeId} {q : IntKind} (hk : P.underlying k = some (.int q)) (z : Int) (es : List MapEntry) (h : ∀ e ∈ es, ∃ n, e.key = .int q n) : Found P w k (.int q z) es := by
  have hks : ∀ y ∈ es, MapKept.IsKey (.int q) y.key := fun y hy => by
    obtain ⟨n, hn⟩ := h y hy
    rw [hn]; exact rfl
  rcases MapKept.findNow_spec (d := .int q) (k := .int q z) rfl es 0 hks with ⟨h1, h2⟩ | ⟨j, e0, h1, h2, h3⟩
  · exact .inl ⟨MapKept.run_findKey hk h1, h2⟩
  · exact .inr ⟨j, e0, by simpa using MapKept.run_findKey hk h1, h2, h3⟩
/-- A pointer to a block of cells. -/
def PtrTo (w : World) (v : Value) (q : Nat) : Prop := v = .pointer (some ⟨q, 0, none⟩) ∧ ∃ c t, w.heap[q]? = some (.cells c t (0, 0))
theorem run_equal_ptr_same {tp te : TypeId} {j : TypeInfo} (a : Addr) (hp : P.underlying tp = some (.pointer te)) (hte : P.info? te = some j) :
    (Op.equal tp (.pointer (some a)) (.pointer (some a))).run P w = .ok true w := by
  have h : ∀ d : Nat, (Op.equalIn (d + 1) tp (.pointer (some a)) (.pointer (some a))).run P w = .ok true w := fun d => by
    simp [Op.equalIn, run_underlying hp, sizeOf, typeInfo, hte, run_sameAddr_same]
  simp [Op.equal, Op.maxDepth, h 9999]
theorem run_equal_ptr_other {tp te : TypeId} {j : TypeInfo} {a b : Addr} {ca cb : Array Value} {ta tb : TypeId} (hp : P.underlying tp = some (.pointer te)) (hte : P.info? te = some j) (hsz : j.size ≠ 0)
    (hne : a ≠ b) (ha : w.heap[a.block]? = some (.cells ca ta (0, 0))) (hb : w.heap[b.block]? = some (.cells cb tb (0, 0))) :
    (Op.equal tp (.pointer (some a)) (.pointer (some b))).run P w = .ok false w := by
  have h : ∀ d : Nat, (Op.equalIn (d + 1) tp (.pointer (some a)) (.pointer (some b))).run P w = .ok false w := fun d => by
    simp [Op.equalIn, run_underlying hp, sizeOf, typeInfo, hte, hsz, run_sameAddr_other w hne ha hb]
  simp [Op.equal, Op.maxDepth, h 9999]
theorem asking_ptr {k te : TypeId} {j0 : TypeInfo} (hk : P.underlying k = some (.pointer te)) (hte : P.info? te = some j0) (hsz : j0.size ≠ 0) (p : Nat) {cp : Array Value} {tp : TypeId} (hp : w.heap[p]? = some (.cells cp tp (0, 0))) :
    ∀ (es : List MapEntry) (i : Nat), (∀ e ∈ es, ∃ q, PtrTo w e.key q) →
    ((Instr.findAsking k (.pointer (some ⟨p, 0, none⟩)) es i).run P w = .ok none w ∧ ∀ e ∈ es, e.key ≠ .pointer (some ⟨p, 0, none⟩)) ∨
    ∃ j e, (Instr.findAsking k (.pointer (some ⟨p, 0, none⟩)) es i).run P w = .ok (some (i + j, e.val)) w ∧ es[j]? = some e ∧ e.key = .pointer (some ⟨p, 0, none⟩)
  | [], i, _ => .inl ⟨rfl, by simp⟩
  | e :: es, i, h => by
    obtain ⟨q, hq, c, t, hc⟩ := h e (by simp)
    by_cases he : q = p
    · subst he
      refine .inr ⟨0, e, ?_, rfl, hq⟩
      simp [Instr.findAsking, hq, run_equal_ptr_same _ hk hte, Result.andThen]
    · have hne : e.key ≠ .pointer (some ⟨p, 0, none⟩) := by
        rw [hq]; intro e; injection e with e; injection e with e; injection e with e; exact he e
      have hr : (Op.equal k (.pointer (some ⟨p, 0, none⟩)) e.key).run P w = .ok false w := by
        rw [hq]
        exact run_equal_ptr_other hk hte hsz (by intro e; injection e with e; exact he e.symm) hp hc
      rcases asking_ptr hk hte hsz p hp es (i + 1) (fun x hx => h x (by simp [hx])) with ⟨h1, h2⟩ | ⟨j, e', h1, h2, h3⟩
      · refine .inl ⟨by simp [Instr.findAsking, hr, Result.andThen, h1], fun x hx => ?_⟩
        rcases List.mem_cons.1 hx with rfl | hx
        · exact hne
        · exact h2 x hx
      · refine .inr ⟨j + 1, e', ?_, by simpa using h2, h3⟩
        simp [Instr.findAsking, hr, Result.andThen, h1]
        omega
theorem found_ptr {k te : TypeId} {j0 : TypeInfo} (hk : P.underlying k = some (.pointer te)) (hte : P.info? te = some j0) (hsz : j0.size ≠ 0) (p : Nat) {cp : Array Value} {tp : TypeId} (hp : w.heap[p]? = some (.cells cp tp (0, 0)))
    (es : List MapEntry) (h : ∀ e ∈ es, ∃ q, PtrTo w e.key q) : Found P w k (.pointer (some ⟨p, 0, none⟩)) es := by
  cases es with
  | nil => exact .inl ⟨by simp [Instr.findKey, run_underlying hk, Result.andThen, Instr.findNow], by simp⟩
  | cons e es =>
    obtain ⟨q, hq, c, t, hc⟩ := h e (by simp)
    have hn : Instr.findNow (.pointer te) (.pointer (some ⟨p, 0, none⟩)) (e :: es) 0 = none := by
      simp [Instr.findNow, Instr.sameNow]
    have hf : (Instr.findKey k (.pointer (some ⟨p, 0, none⟩)) (e :: es)).run P w = (Instr.findAsking k (.pointer (some ⟨p, 0, none⟩)) (e :: es)).run P w := by
      simp [Instr.findKey, run_underlying hk, Result.andThen, hn]
    unfold Found
    rw [hf]
    rcases asking_ptr hk hte hsz p hp (e :: es) 0 h with h1 | ⟨j, e', h1, h2, h3⟩
    · exact .inl h1
    · exact .inr ⟨j, e', by simpa using h1, h2, h3⟩
theorem check_ptr {k te : TypeId} (hk : P.underlying k = some (.pointer te)) (em : Bool) (a : Option Addr) : (Instr.checkKey em 10000 k (.pointer a)).run P w = .ok () w := by
  have h : ∀ n : Nat, (Instr.checkKey em (n + 1) k (.pointer a)).run P w = .ok () w := fun n => by simp [Instr.checkKey, run_underlying hk, Result.andThen]
  exact h 9999
theorem check_int {k : TypeId} {q : IntKind} (hk : P.underlying k = some (.int q)) (em : Bool) (z : Int) : (Instr.checkKey em 10000 k (.int q z)).run P w = .ok () w := by
  have h : ∀ n : Nat, (Instr.checkKey em (n + 1) k (.int q z)).run P w = .ok () w := fun n => by simp [Instr.checkKey, run_underlying hk, Result.andThen]
  exact h 9999
theorem stays_ptr (a : Option Addr) : (Instr.keyThatStays (.pointer a) (.pointer a)).run P w = .ok (.pointer a) w := by
  have h : ∀ n : Nat, Instr.sameBits n (.pointer a) (.pointer a) = true := fun n => by cases n <;> simp [Instr.sameBits]
  simp [Instr.keyThatStays, h 10000]
theorem stays_int (q : IntKind) (z : Int) : (Instr.keyThatStays (.int q z) (.int q z)).run P w = .ok (.int q z) w := by
  have h : ∀ n : Nat, Instr.sameBits n (.int q z) (.int q z) = true := fun n => by cases n <;> simp [Instr.sameBits]
  simp [Instr.keyThatStays, h 10000]
theorem lookup_map {t k e : TypeId} {b clock : Nat} {es : Array MapEntry} {key z : Value} (c : Bool) (ht : P.underlying t = some (.map k e)) (hb : w.heap[b]? = some (.map es clock)) (hck : ∀ em, (Instr.checkKey em 10000 k key).run P w = .ok () w)
    (hf : Found P w k key es.toList) (hz : (zeroValue e).run P w = .ok z w) :
    ((Instr.lookup t (.map (some b)) key c).run P w = .ok (if c then .tuple #[z, .bool false] else z) w ∧ ∀ x ∈ es.toList, x.key ≠ key) ∨
    ∃ e0 ∈ es.toList, e0.key = key ∧ (Instr.lookup t (.map (some b)) key c).run P w = .ok (if c then .tuple #[e0.val, .bool true] else e0.val) w := by
  rcases hf with ⟨h1, h2⟩ | ⟨j, e0, h1, h2, h3⟩
  · exact .inl ⟨by simp [Instr.lookup, run_underlying ht, MapKept.run_getObj_map hb, hck, h1, hz, Result.andThen], h2⟩
  · exact .inr ⟨e0, List.mem_of_getElem? h2, h3, by simp [Instr.lookup, run_underlying ht, MapKept.run_getObj_map hb, hck, h1, Result.andThen]⟩
theorem lookup_nil {t k e : TypeId} {key z : Value} (c : Bool) (ht : P.underlying t = some (.map k e)) (hk : P.underlying k = some (.int .i64)) (hck : ∀ em, (Instr.checkKey em 10000 k key).run P w = .ok () w) (hz : (zeroValue e).run P w = .ok z w) :
    (Instr.lookup t (.map none) key c).run P w = .ok (if c then .tuple #[z, .bool false] else z) w := by
  have hf : (Instr.findKey k key []).run P w = .ok none w := by simp [Instr.findKey, run_underlying hk, Result.andThen, Instr.findNow]
  simp [Instr.lookup, run_underlying ht, hck, hf, hz, Result.andThen]
/-- What an update leaves. -/
theorem update_map {t k e : TypeId} {b clock : Nat} {es : Array MapEntry} {key val : Value} (ht : P.underlying t = some (.map k e)) (hb : w.heap[b]? = some (.map es clock)) (hck : ∀ em, (Instr.checkKey em 10000 k key).run P w = .ok () w)
    (hf : Found P w k key es.toList) (hst : (Instr.keyThatStays key key).run P w = .ok key w) :
    ∃ es' clock', (Instr.mapUpdate t (.map (some b)) key val).run P w = .ok () (ChangeMaps.setBlock w b (.map es' clock')) ∧ (∀ x ∈ es'.toList, x ∈ es.toList ∨ (x.key = key ∧ x.val = val)) ∧ ∃ x ∈ es'.toList, x.key = key ∧ x.val = val := by
  rcases hf with ⟨h1, h2⟩ | ⟨j, e0, h1, h2, h3⟩
  · refine ⟨es.push ⟨key, val, clock⟩, clock + 1, ?_, fun x hx => ?_, ⟨key, val, clock⟩, by simp, rfl, rfl⟩
    · simp [Instr.mapUpdate, run_underlying ht, MapKept.run_getObj_map hb, hck false, h1, MapKept.run_setObj_map _ hb, Result.andThen, ChangeMaps.setBlock]
    · simp only [Array.toList_push, List.mem_append, List.mem_singleton] at hx
      rcases hx with hx | rfl
      · exact .inl hx
      · exact .inr ⟨rfl, rfl⟩
  · have hj : j < es.size := by simpa using (List.getElem?_eq_some_iff.1 h2).1
    have he : es[j]? = some e0 := by simpa using h2
    have hs2 : (Instr.keyThatStays (((es[j]?).map (·.key)).getD key) key).run P w = .ok key w := by
      rw [he]; show (Instr.keyThatStays e0.key key).run P w = _; rw [h3]; exact hst
    refine ⟨es.modify j fun e => { e with key := key, val := val }, clock, ?_, fun x hx => ?_, { e0 with key := key, val := val }, ?_, rfl, rfl⟩
    · simp [Instr.mapUpdate, run_underlying ht, MapKept.run_getObj_map hb, hck false, h1, hs2, MapKept.run_setObj_map _ hb, Result.andThen, ChangeMaps.setBlock]
    · obtain ⟨i, hi, rfl⟩ := List.getElem_of_mem hx
      simp only [Array.length_toList, Array.size_modify] at hi
      by_cases hij : j = i
      · subst hij
        exact .inr ⟨by simp, by simp⟩
      · refine .inl ?_
        simp only [Array.getElem_toList, Array.getElem_modify, if_neg hij]
        exact Array.getElem_mem_toList hi
    · have h4 : (es.modify j fun e => { e with key := key, val := val })[j]? = some { e0 with key := key, val := val } := by
        rw [Array.getElem?_modify, if_pos rfl, he]; rfl
      exact List.mem_of_getElem? (i := j) (by rw [Array.getElem?_toList]; exact h4)
end
theorem setBlock_grown {w : World} {b clock : Nat} {es : Array MapEntry} (hb : w.heap[b]? = some (.map es clock)) (o : Obj) : w.grownBy (ChangeMaps.setBlock w b o) (some b) :=
  ⟨rfl, rfl, rfl, by simp [ChangeMaps.setBlock], fun i _ hi => ChangeMaps.heap_setBlock_other hb _ (fun e => hi (by rw [e]))⟩
end Go.Proofs.YtihomcedaaiidaaGreatDoor
namespace Go.Proofs.YtihomcedaaiidaaGreatDoor
open Go.RowKit
set_option linter.unusedVariables false
namespace Fm
def eAt (e : Env) (i : Nat) : Nat := if h : i < 4 then e ⟨i, h⟩ else 0
/-- The number of the elements of some variables. -/
def keyTo (s : Nat) (e : Env) : Nat → Nat
  | 0 => 0
  | i + 1 => if s / 2 ^ i % 2 = 1 then keyTo s e i + eAt e i * 8 ^ i else keyTo s e i
theorem eAt_lt {e : Env} (h : ∀ v, e v < 8) (i : Nat) : eAt e i < 8 := by
  unfold eAt; split
  · exact h _
  · omega
theorem keyTo_lt {s : Nat} {e : Env} (h : ∀ v, e v < 8) : ∀ i, keyTo s e i < 8 ^ i
  | 0 => by simp [keyTo]
  | i + 1 => by
    have h1 := keyTo_lt (s := s) h i
    have h2 := eAt_lt h i
    have h3 : eAt e i * 8 ^ i ≤ 7 * 8 ^ i := Nat.mul_le_mul_right _ (by omega)
    rw [Nat.pow_succ]
    unfold keyTo
    split <;> omega
theorem key_inj {s : Nat} {e e' : Env} (h : ∀ v, e v < 8) (h' : ∀ v, e' v < 8) (hk : keyTo s e 4 = keyTo s e' 4) (u : Fin 4) (hu : s.testBit u.val = true) : e u = e' u := by
  have step : ∀ i, keyTo s e (i + 1) = keyTo s e' (i + 1) → keyTo s e i = keyTo s e' i ∧ (s / 2 ^ i % 2 = 1 → eAt e i = eAt e' i) := by
    intro i hi
    have a := keyTo_lt (s := s) h i
    have b := keyTo_lt (s := s) h' i
    unfold keyTo at hi
    by_cases hb : s / 2 ^ i % 2 = 1
    · rw [if_pos hb, if_pos hb] at hi
      generalize keyTo s e i = x at *
      generalize keyTo s e' i = y at *
      generalize eAt e i = p at *
      generalize eAt e' i = q at *
      have hx : x = (x + p * 8 ^ i) % 8 ^ i := by rw [Nat.add_mul_mod_self_right, Nat.mod_eq_of_lt a]
      have hy : y = (y + q * 8 ^ i) % 8 ^ i := by rw [Nat.add_mul_mod_self_right, Nat.mod_eq_of_lt b]
      have hxy : x = y := by rw [hx, hy, hi]
      refine ⟨hxy, fun _ => ?_⟩
      rw [hxy] at hi
      have h0 : p * 8 ^ i = q * 8 ^ i := by omega
      exact Nat.eq_of_mul_eq_mul_right (Nat.pow_pos (by decide)) h0
    · rw [if_neg hb, if_neg hb] at hi
      exact ⟨hi, fun h => absurd h hb⟩
  have s3 := step 3 hk
  have s2 := step 2 s3.1
  have s1 := step 1 s2.1
  have s0 := step 0 s1.1
  rw [Nat.testBit_eq_decide_div_mod_eq, decide_eq_true_iff] at hu
  have hE : ∀ (e : Env) (u : Fin 4), eAt e u.val = e u := fun e u => by unfold eAt; rw [dif_pos u.isLt]
  rw [← hE e u, ← hE e' u]
  match u, hu with
  | 0, hu => exact s0.2 hu
  | 1, hu => exact s1.2 hu
  | 2, hu => exact s2.2 hu
  | 3, hu => exact s3.2 hu
/-- One more variable's element. -/
theorem key_or {s : Nat} {e : Env} (h : ∀ v, e v < 8) (i : Nat) (hb : s / 2 ^ i % 2 = 1) : keyTo s e i ||| eAt e i * 8 ^ i = keyTo s e (i + 1) := by
  have a := keyTo_lt (s := s) h i
  have e8 : (8 : Nat) ^ i = 2 ^ (3 * i) := by rw [Nat.pow_mul]
  have := Nat.two_pow_add_eq_or_of_lt (i := 3 * i) (b := keyTo s e i) (by rw [← e8]; exact a) (eAt e i)
  rw [Nat.or_comm, e8, Nat.mul_comm, ← this, ← e8]
  show _ = if s / 2 ^ i % 2 = 1 then keyTo s e i + eAt e i * 8 ^ i else keyTo s e i
  rw [if_pos hb, Nat.mul_comm, Nat.add_comm]
theorem key_not {s : Nat} {e : Env} (i : Nat) (hb : ¬ s / 2 ^ i % 2 = 1) : keyTo s e (i + 1) = keyTo s e i := by
  show (if s / 2 ^ i % 2 = 1 then keyTo s e i + eAt e i * 8 ^ i else keyTo s e i) = _
  rw [if_neg hb]
def keyN (φ : T) (e : Env) : Nat := keyTo (free φ) e 4
/-- A number tells whether the formula is true. -/
theorem key_holds (a : Gs.St) (φ : T) {e e' : Env} (h : ∀ v, e v < 8) (h' : ∀ v, e' v < 8) (hk : keyN φ e = keyN φ e') : holds a φ e = holds a φ e' :=
  holds_congr a φ fun u hu => key_inj h h' hk u hu
end Fm
/-- What is known of one formula: its entries are right. -/
def Known (w : World) (a : Gs.St) (φ : Fm.T) (r : Nat) : Prop := ∃ es clock, w.heap[r]? = some (.map es clock) ∧ ∀ y ∈ es.toList, ∃ (k : Nat) (b : Bool), y.key = .int .i64 (k : Int) ∧ y.val = .bool b ∧ ∀ e : Fm.Env, (∀ v, e v < 8) → Fm.keyN φ e = k → b = Fm.holds a φ e
/-- The map of what is known, in the blocks G; the formulas' trees are in the blocks F. -/
structure Memo (F G : Nat → Prop) (w : World) (kb : Nat) (a : Gs.St) : Prop where
  own : G kb
  lt : ∀ b, G b → b < w.heap.size
  flt : ∀ b, F b → b < w.heap.size
  apart : ∀ b, F b → ¬ G b
  map : ∃ es clock, w.heap[kb]? = some (.map es clock) ∧ (∀ x ∈ es.toList, ∃ (p r : Nat) (φ : Fm.T), x.key = ptrV p ∧ x.val = .map (some r) ∧ Tree F w φ p ∧ G r ∧ r ≠ kb ∧ Known w a φ r) ∧ ∀ x ∈ es.toList, ∀ y ∈ es.toList, x.val = y.val → x.key = y.key
theorem Known.kept {w w' : World} {a : Gs.St} {φ : Fm.T} {r : Nat} (h : Known w a φ r) (hr : w'.heap[r]? = w.heap[r]?) : Known w' a φ r := by
  obtain ⟨es, clock, h1, h2⟩ := h
  exact ⟨es, clock, hr.trans h1, h2⟩
theorem Memo.off {F G H : Nat → Prop} {w w' : World} {kb : Nat} {a : Gs.St} (h : Memo F G w kb a) (hw : Off H w w') (hF : ∀ b, F b → ¬ H b) (hG : ∀ b, G b → ¬ H b) : Memo F G w' kb a := by
  obtain ⟨es, clock, h1, h2, h3⟩ := h.map
  refine ⟨h.own, fun b hb => Nat.lt_of_lt_of_le (h.lt b hb) hw.size, fun b hb => Nat.lt_of_lt_of_le (h.flt b hb) hw.size, h.apart, es, clock, (hw.block kb (h.lt _ h.own) (hG _ h.own)).trans h1, fun x hx => ?_, h3⟩
  obtain ⟨p, r, φ, e1, e2, t, g, n, k⟩ := h2 x hx
  exact ⟨p, r, φ, e1, e2, t.off hw hF, g, n, k.kept (hw.block r (h.lt _ g) (hG _ g))⟩
theorem Memo.below {F G : Nat → Prop} {w w' : World} {kb : Nat} {a : Gs.St} (h : Memo F G w kb a) (hw : Below w.heap.size w w') : Memo F G w' kb a :=
  h.off (H := fun _ => False) (Off.of_below hw) (fun _ _ h => h) (fun _ _ h => h)
theorem Tree.ptr {F : Nat → Prop} {w : World} {φ : Fm.T} {p : Nat} (h : Tree F w φ p) : PtrTo w (ptrV p) p := by
  obtain ⟨v, u, qs, nd, _⟩ := h.node
  exact ⟨rfl, _, _, nd.cell⟩
theorem RowF.uniq {F F' : Nat → Prop} {w : World} {e e' : TypeId} {v : Value} {xs ys : List Value} (h : RowF F w e v xs) (h' : RowF F' w e' v ys) : xs = ys := by
  obtain ⟨a, cap, e1, _, _, c1⟩ := h.view
  obtain ⟨a', cap', e2, _, _, c2⟩ := h'.view
  rw [e1] at e2
  injection e2 with e3 e4 _
  refine List.ext_getElem e4 fun j hj hj' => ?_
  obtain ⟨g, e5, _, _, k1⟩ := c1 (by omega)
  obtain ⟨g', e6, _, _, k2⟩ := c2 (by omega)
  rw [e5, e6] at e3
  injection e3 with e3; injection e3 with e3
  have k := (k1 j hj).symm.trans (e3 ▸ k2 j hj')
  rw [List.getElem?_eq_getElem hj, List.getElem?_eq_getElem hj'] at k
  exact Option.some.inj k
theorem Nd.inj {F F' : Nat → Prop} {w : World} {p : Nat} {op op' : UInt8} {vs vs' : List (Fin 4)} {qs qs' : List Nat} {fr al fr' al' : Nat} {v u v' u' : Value} (h : Nd F w p op vs qs fr al v u) (h' : Nd F' w p op' vs' qs' fr' al' v' u') :
    op = op' ∧ vs = vs' ∧ qs = qs' := by
  have e := h.cell.symm.trans h'.cell
  injection e with e; injection e with e _ _
  have e0 := congrArg (fun c : Array Value => c.getD 0 undef) e
  have e1 := congrArg (fun c : Array Value => c.getD 1 undef) e
  have e2 := congrArg (fun c : Array Value => c.getD 2 undef) e
  have e0 : Value.int .u8 (op.toNat : Int) = .int .u8 (op'.toNat : Int) := e0
  have e1 : v = v' := e1
  have e2 : u = u' := e2
  injection e0 with _ e0
  subst e1; subst e2
  refine ⟨UInt8.toNat_inj.1 (by omega), ?_, ?_⟩
  · have hm : vs.map vbV = vs'.map vbV := h.vars.uniq h'.vars
    exact (List.map_inj_right (fun x y (hxy : vbV x = vbV y) => by unfold vbV at hxy; injection hxy with _ hxy; exact Fin.ext (by omega))).1 hm
  · have hm : qs.map ptrV = qs'.map ptrV := h.parts.uniq h'.parts
    exact (List.map_inj_right (fun x y (hxy : ptrV x = ptrV y) => by unfold ptrV at hxy; injection hxy with hxy; injection hxy with hxy; injection hxy)).1 hm
theorem Fm.T.eta : ∀ φ : Fm.T, φ = Fm.build φ.op φ.vs φ.ps
  | .lit b => by cases b <;> rfl
  | .set _ => rfl
  | .rel e _ _ => by cases e <;> rfl
  | .neg _ => rfl
  | .bin o _ _ => by cases o <;> rfl
  | .qu q _ _ => by cases q <;> rfl
theorem Tree.inj {F F' : Nat → Prop} {w : World} : ∀ (n : Nat) {φ ψ : Fm.T} {p : Nat}, Fm.len φ ≤ n → Tree F w φ p → Tree F' w ψ p → φ = ψ
  | 0, φ, _, _, hn, _, _ => absurd (Fm.text_pos φ) (by unfold Fm.len at hn; omega)
  | n + 1, φ, ψ, p, hn, h, h' => by
    obtain ⟨v, u, qs, nd, ts⟩ := h.node
    obtain ⟨v', u', qs', nd', ts'⟩ := h'.node
    obtain ⟨e1, e2, e3⟩ := nd.inj nd'
    subst e3
    have hp : φ.ps = ψ.ps := by
      have parts : ∀ (fs gs : List Fm.T) (qs : List Nat), (∀ f ∈ fs, Fm.len f ≤ n) → Trees F w fs qs → Trees F' w gs qs → fs = gs := by
        intro fs
        induction fs with
        | nil =>
          intro gs qs _ t t'
          have h1 := t.length
          have h2 := t'.length
          cases gs with
          | nil => rfl
          | cons g gs =>
            simp only [List.length_nil, List.length_cons] at h1 h2
            omega
        | cons f fs ih =>
          intro gs qs hl t t'
          cases qs with
          | nil => exact t.elim
          | cons q qs =>
            cases gs with
            | nil => exact t'.elim
            | cons g gs =>
              rw [Tree.inj n (hl f (by simp)) t.1 t'.1, ih gs qs (fun x hx => hl x (by simp [hx])) t.2 t'.2]
      refine parts _ _ qs (fun f hf => ?_) ts ts'
      unfold Fm.len at hn ⊢
      cases φ <;> simp [Fm.T.ps] at hf
      all_goals first | (subst hf; simp [Fm.text] at hn; omega) | (rcases hf with rfl | rfl <;> (simp [Fm.text] at hn; omega))
    rw [φ.eta, ψ.eta, e1, e2, hp]
end Go.Proofs.YtihomcedaaiidaaGreatDoor
namespace Go.Proofs.YtihomcedaaiidaaGreatDoor
open Go.RowKit
set_option linter.unusedVariables false
/-- Since w the map of what is known alone has turned. -/
structure EverP (F G : Nat → Prop) (kb : Nat) (a : Gs.St) (w w' : World) : Prop where
  off : Off G w w'
  memo : ∃ G', Memo F G' w' kb a ∧ ∀ b, G' b → G b ∨ w.heap.size ≤ b
section
variable {F G : Nat → Prop} {kb : Nat} {a : Gs.St} {w w1 w2 : World}
theorem EverP.refl (h : Memo F G w kb a) : EverP F G kb a w w := ⟨Off.refl _ _, G, h, fun b hb => .inl hb⟩
theorem EverP.of_below (h : Memo F G w kb a) (hb : Below w.heap.size w w1) : EverP F G kb a w w1 := ⟨Off.of_below hb, G, h.below hb, fun b hb => .inl hb⟩
theorem EverP.trans (h : EverP F G kb a w w1) (h1 : ∀ G', Memo F G' w1 kb a → EverP F G' kb a w1 w2) : EverP F G kb a w w2 := by
  obtain ⟨G', m, hG⟩ := h.memo
  have k := h1 G' m
  obtain ⟨G2, m2, hG2⟩ := k.memo
  refine ⟨h.off.trans k.off hG, G2, m2, fun b hb => ?_⟩
  rcases hG2 b hb with h3 | h3
  · exact hG b h3
  · exact .inr (Nat.le_trans h.off.size h3)
/-- Of what is not the map's nothing has turned. -/
theorem EverP.heap (h : EverP F G kb a w w1) {b : Nat} (hb : b < w.heap.size) (hG : ¬ G b) : w1.heap[b]? = w.heap[b]? := h.off.block b hb hG
theorem EverP.cell (h : EverP F G kb a w w1) {p : Addr} {v : Value} (hc : w.cell? p = some v) (hG : ¬ G p.block) : w1.cell? p = some v :=
  (h.off.cell (World.block_lt_of_cell? w p hc) hG).trans hc
end
/-- The worlds since w in which the map alone has turned. -/
def Ever (F G : Nat → Prop) (kb : Nat) (a : Gs.St) (w : World) : Type := {w' : World // EverP F G kb a w w'}
def Ever.w {F G : Nat → Prop} {kb : Nat} {a : Gs.St} {w : World} (s : Ever F G kb a w) : World := s.1
theorem Ever.p {F G : Nat → Prop} {kb : Nat} {a : Gs.St} {w : World} (s : Ever F G kb a w) : EverP F G kb a w s.w := s.2
theorem Ever.cell {F G : Nat → Prop} {kb : Nat} {a : Gs.St} {w : World} {p : Addr} {v : Value} (hc : w.cell? p = some v) (hG : ¬ G p.block) (s : Ever F G kb a w) : s.w.cell? p = some v := s.p.cell hc hG
theorem wp_region_ever {P : Program} {id : Nat} {Q : Exit → Act → World → Prop} {act : Act} {w : World} {l : List Oper} {F G : Nat → Prop} {kb : Nat} {a : Gs.St} (h0 : Memo F G w kb a) (hm : P.follows .mixedOrders = true) (hB : Region.lexB .any l.toArray = true)
    (h : wpQuiet P l.toArray (fun w' => ∃ s : Ever F G kb a w, w' = s.w) (fun a' => ∀ w', EverP F G kb a w w' → Q .normal a' w') l act) : (Code.region id l.toArray true).wp P Q act w := by
  simp only [Region.lexB, Bool.and_eq_true] at hB
  refine wp_region_any hm (wpAny_of_quiet (C := fun w' => ∃ s : Ever F G kb a w, w' = s.w) (Q := fun a' => ∀ w', EverP F G kb a w w' → Q .normal a' w') (fun _ w' ⟨s, hs⟩ h => h w' (by rw [hs]; exact s.p)) _ _ _ _ ⟨⟨{ w with drawn := w.drawn + 1 }, EverP.of_below h0 ⟨rfl, rfl, rfl, Nat.le_refl _, fun _ _ => rfl⟩⟩, rfl⟩ ?_)
  have := wpAnyQ_lex (P := P) (C := fun w' => ∃ s : Ever F G kb a w, w' = s.w) (md := .any) hB.1 l 0 (Array.replicate l.toArray.size false) act (by simp) (by simpa using hB.2) h
  simpa using this
/-- A call that turns the map alone. -/
theorem Ever.call {P : Program} {f : FuncId} {args : Array Value} {F G : Nat → Prop} {kb : Nat} {a : Gs.St} {w : World} {s : Ever F G kb a w} {v : Value}
    (h : ∀ G', Memo F G' s.w kb a → Calls P f args s.w fun e w' => e = .returned v ∧ EverP F G' kb a s.w w') : Calls P f args s.w fun e w'' => e = .returned v ∧ ∃ s' : Ever F G kb a w, w'' = s'.w := by
  obtain ⟨G', m, hG⟩ := s.p.memo
  refine (h G' m).mono fun e w' ⟨he, hb⟩ => ⟨he, ⟨w', ⟨?_, ?_⟩⟩, rfl⟩
  · exact s.p.off.trans hb.off hG
  · obtain ⟨G2, m2, hG2⟩ := hb.memo
    refine ⟨G2, m2, fun b hb => ?_⟩
    rcases hG2 b hb with h3 | h3
    · exact hG b h3
    · exact .inr (Nat.le_trans s.p.off.size h3)
/-- A call that turns nothing that was there. -/
theorem Ever.call_below {P : Program} {f : FuncId} {args : Array Value} {F G : Nat → Prop} {kb : Nat} {a : Gs.St} {w : World} {s : Ever F G kb a w} {v : Value}
    (h : Calls P f args s.w fun e w' => e = .returned v ∧ Below s.w.heap.size s.w w') : Calls P f args s.w fun e w'' => e = .returned v ∧ ∃ s' : Ever F G kb a w, w'' = s'.w :=
  Ever.call fun G' m => h.mono fun e w' ⟨he, hb⟩ => ⟨he, EverP.of_below m hb⟩
/-- The holder in memory. -/
def HoldAt (w : World) (hb kb n : Nat) (S R : ByteArray) : Prop := w.heap[hb]? = some (.cells #[.int .i64 (n : Int), .string S, .string R, .map (some kb)] 119 (0, 0))
theorem HoldAt.cells {w : World} {hb kb n : Nat} {S R : ByteArray} (h : HoldAt w hb kb n S R) : w.cell? ⟨hb, 0, none⟩ = some (.int .i64 (n : Int)) ∧ w.cell? ⟨hb, 1, none⟩ = some (.string S) ∧ w.cell? ⟨hb, 2, none⟩ = some (.string R) ∧ w.cell? ⟨hb, 3, none⟩ = some (.map (some kb)) ∧ hb < w.heap.size := by
  unfold HoldAt at h
  refine ⟨?_, ?_, ?_, ?_, (Array.getElem?_eq_some_iff.1 h).1⟩ <;> simp [World.cell?, h]
def envV (e : Fm.Env) : Value := .agg #[.int .i64 ((e 0 : Nat) : Int), .int .i64 ((e 1 : Nat) : Int), .int .i64 ((e 2 : Nat) : Int), .int .i64 ((e 3 : Nat) : Int)]
def envC (e : Fm.Env) : Array Value := #[.int .i64 ((e 0 : Nat) : Int), .int .i64 ((e 1 : Nat) : Int), .int .i64 ((e 2 : Nat) : Int), .int .i64 ((e 3 : Nat) : Int)]
/-- What the holder stands on: its block and the trees' are among those that do not turn. -/
structure Base (F G : Nat → Prop) (w : World) (hb kb n : Nat) (S R : ByteArray) : Prop where
  hold : HoldAt w hb kb n S R
  foot : F hb
  memo : Memo F G w kb (stOf n S R)
  hS : S.size = n
  hR : R.size = n * n
  n1 : 1 ≤ n
  n8 : n ≤ 8
theorem Base.ever {F G G' : Nat → Prop} {w w' : World} {hb kb n : Nat} {S R : ByteArray} (h : Base F G w hb kb n S R) (he : EverP F G kb (stOf n S R) w w') (hm : Memo F G' w' kb (stOf n S R)) : Base F G' w' hb kb n S R :=
  ⟨(he.heap h.hold.cells.2.2.2.2 (h.memo.apart _ h.foot)).trans h.hold, h.foot, hm, h.hS, h.hR, h.n1, h.n8⟩
theorem Base.below {F G : Nat → Prop} {w w' : World} {hb kb n : Nat} {S R : ByteArray} (h : Base F G w hb kb n S R) (he : Below w.heap.size w w') : Base F G w' hb kb n S R := h.ever (EverP.of_below h.memo he) (h.memo.below he)
theorem Tree.ever {F G : Nat → Prop} {kb : Nat} {a : Gs.St} {w w' : World} {φ : Fm.T} {p : Nat} (h : Tree F w φ p) (hm : Memo F G w kb a) (he : EverP F G kb a w w') : Tree F w' φ p := h.off he.off hm.apart
/-- What isTrue and decide do with a formula. -/
def TrueOK (φ : Fm.T) : Prop := ∀ (F G : Nat → Prop) (w : World) (hb kb n : Nat) (S R : ByteArray) (p : Nat) (e : Fm.Env), Base F G w hb kb n S R → Tree F w φ p → (∀ v, e v < n) →
  Calls Tryz.prog 87 #[ptrV hb, ptrV p, envV e] w fun en w' => en = .returned (.bool (Fm.holds (stOf n S R) φ e)) ∧ EverP F G kb (stOf n S R) w w'
def DecideOK (φ : Fm.T) : Prop := ∀ (F G : Nat → Prop) (w : World) (hb kb n : Nat) (S R : ByteArray) (p : Nat) (e : Fm.Env), Base F G w hb kb n S R → Tree F w φ p → (∀ v, e v < n) →
  Calls Tryz.prog 128 #[ptrV hb, ptrV p, envV e] w fun en w' => en = .returned (.bool (Fm.holds (stOf n S R) φ e)) ∧ EverP F G kb (stOf n S R) w w'
end Go.Proofs.YtihomcedaaiidaaGreatDoor
