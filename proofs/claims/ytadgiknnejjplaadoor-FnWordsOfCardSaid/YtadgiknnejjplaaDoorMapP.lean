/- Maps in memory whose keys are numbers or pointers: look-up and update. Condition: the pointers of a map's keys lead to blocks of cells. -/
import Derived.Test.YtadgiknnejjplaaDoorBase
import Derived.Maps.Own
import Derived.LaidEqlPtr
namespace Go.Proofs.YtadgiknnejjplaaDoor
open Go.RowKit
set_option linter.unusedVariables false

section
variable {P : Program} {w : World}
/-- What a search for a key gives. -/
def Found (P : Program) (w : World) (k : TypeId) (x : Value) (es : List MapEntry) : Prop :=
  ((Instr.findKey k x es).run P w = .ok none w ∧ ∀ e ∈ es, e.key ≠ x) ∨ ∃ j e, (Instr.findKey k x es).run P w = .ok (some (j, e.val)) w ∧ es[j]? = some e ∧ e.key = x

theorem found_int {k : TypeId} {q : IntKind} (hk : P.underlying k = some (.int q)) (z : Int) (es : List MapEntry) (h : ∀ e ∈ es, ∃ n, e.key = .int q n) : Found P w k (.int q z) es := by
  have hks : ∀ y ∈ es, MapKept.IsKey (.int q) y.key := fun y hy => by
    obtain ⟨n, hn⟩ := h y hy
    rw [hn]; exact rfl
  rcases MapKept.findNow_spec (d := .int q) (k := .int q z) rfl es 0 hks with ⟨h1, h2⟩ | ⟨j, e0, h1, h2, h3⟩
  · exact .inl ⟨MapKept.run_findKey hk h1, h2⟩
  · exact .inr ⟨j, e0, by simpa using MapKept.run_findKey hk h1, h2, h3⟩

/-- A pointer to a block of cells. -/
def PtrTo (w : World) (v : Value) (q : Nat) : Prop := v = .pointer (some ⟨q, 0, none⟩) ∧ ∃ c t, w.heap[q]? = some (.cells c t (0, 0))

theorem run_equal_ptr_same {tp te : TypeId} {j : TypeInfo} (a : Addr) (hp : P.underlying tp = some (.pointer te)) (hte : P.info? te = some j) :
    (Op.equal tp (.pointer (some a)) (.pointer (some a))).run P w = .ok true w := by
  have h : ∀ d : Nat, (Op.equalIn (d + 1) tp (.pointer (some a)) (.pointer (some a))).run P w = .ok true w := fun d => by
    simp [Op.equalIn, run_underlying hp, sizeOf, typeInfo, hte, run_sameAddr_same]
  simp [Op.equal, Op.maxDepth, h 9999]
theorem run_equal_ptr_other {tp te : TypeId} {j : TypeInfo} {a b : Addr} {ca cb : Array Value} {ta tb : TypeId} (hp : P.underlying tp = some (.pointer te)) (hte : P.info? te = some j) (hsz : j.size ≠ 0)
    (hne : a ≠ b) (ha : w.heap[a.block]? = some (.cells ca ta (0, 0))) (hb : w.heap[b.block]? = some (.cells cb tb (0, 0))) :
    (Op.equal tp (.pointer (some a)) (.pointer (some b))).run P w = .ok false w := by
  have h : ∀ d : Nat, (Op.equalIn (d + 1) tp (.pointer (some a)) (.pointer (some b))).run P w = .ok false w := fun d => by
    simp [Op.equalIn, run_underlying hp, sizeOf, typeInfo, hte, hsz, run_sameAddr_other w hne ha hb]
  simp [Op.equal, Op.maxDepth, h 9999]

theorem asking_ptr {k te : TypeId} {j0 : TypeInfo} (hk : P.underlying k = some (.pointer te)) (hte : P.info? te = some j0) (hsz : j0.size ≠ 0) (p : Nat) {cp : Array Value} {tp : TypeId} (hp : w.heap[p]? = some (.cells cp tp (0, 0))) :
    ∀ (es : List MapEntry) (i : Nat), (∀ e ∈ es, ∃ q, PtrTo w e.key q) →
    ((Instr.findAsking k (.pointer (some ⟨p, 0, none⟩)) es i).run P w = .ok none w ∧ ∀ e ∈ es, e.key ≠ .pointer (some ⟨p, 0, none⟩)) ∨
    ∃ j e, (Instr.findAsking k (.pointer (some ⟨p, 0, none⟩)) es i).run P w = .ok (some (i + j, e.val)) w ∧ es[j]? = some e ∧ e.key = .pointer (some ⟨p, 0, none⟩)
  | [], i, _ => .inl ⟨rfl, by simp⟩
  | e :: es, i, h => by
    obtain ⟨q, hq, c, t, hc⟩ := h e (by simp)
    by_cases he : q = p
    · subst he
      refine .inr ⟨0, e, ?_, rfl, hq⟩
      simp [Instr.findAsking, hq, run_equal_ptr_same _ hk hte, Result.andThen]
    · have hne : e.key ≠ .pointer (some ⟨p, 0, none⟩) := by
        rw [hq]; intro e; injection e with e; injection e with e; injection e with e; exact he e
      have hr : (Op.equal k (.pointer (some ⟨p, 0, none⟩)) e.key).run P w = .ok false w := by
        rw [hq]
        exact run_equal_ptr_other hk hte hsz (by intro e; injection e with e; exact he e.symm) hp hc
      rcases asking_ptr hk hte hsz p hp es (i + 1) (fun x hx => h x (by simp [hx])) with ⟨h1, h2⟩ | ⟨j, e', h1, h2, h3⟩
      · refine .inl ⟨by simp [Instr.findAsking, hr, Result.andThen, h1], fun x hx => ?_⟩
        rcases List.mem_cons.1 hx with rfl | hx
        · exact hne
        · exact h2 x hx
      · refine .inr ⟨j + 1, e', ?_, by simpa using h2, h3⟩
        simp [Instr.findAsking, hr, Result.andThen, h1]
        omega
theorem found_ptr {k te : TypeId} {j0 : TypeInfo} (hk : P.underlying k = some (.pointer te)) (hte : P.info? te = some j0) (hsz : j0.size ≠ 0) (p : Nat) {cp : Array Value} {tp : TypeId} (hp : w.heap[p]? = some (.cells cp tp (0, 0)))
    (es : List MapEntry) (h : ∀ e ∈ es, ∃ q, PtrTo w e.key q) : Found P w k (.pointer (some ⟨p, 0, none⟩)) es := by
  cases es with
  | nil => exact .inl ⟨by simp [Instr.findKey, run_underlying hk, Result.andThen, Instr.findNow], by simp⟩
  | cons e es =>
    obtain ⟨q, hq, c, t, hc⟩ := h e (by simp)
    have hn : Instr.findNow (.pointer te) (.pointer (some ⟨p, 0, none⟩)) (e :: es) 0 = none := by
      simp [Instr.findNow, Instr.sameNow]
    have hf : (Instr.findKey k (.pointer (some ⟨p, 0, none⟩)) (e :: es)).run P w = (Instr.findAsking k (.pointer (some ⟨p, 0, none⟩)) (e :: es)).run P w := by
      simp [Instr.findKey, run_underlying hk, Result.andThen, hn]
    unfold Found
    rw [hf]
    rcases asking_ptr hk hte hsz p hp (e :: es) 0 h with h1 | ⟨j, e', h1, h2, h3⟩
    · exact .inl h1
    · exact .inr ⟨j, e', by simpa using h1, h2, h3⟩
theorem check_ptr {k te : TypeId} (hk : P.underlying k = some (.pointer te)) (em : Bool) (a : Option Addr) : (Instr.checkKey em 10000 k (.pointer a)).run P w = .ok () w := by
  have h : ∀ n : Nat, (Instr.checkKey em (n + 1) k (.pointer a)).run P w = .ok () w := fun n => by simp [Instr.checkKey, run_underlying hk, Result.andThen]
  exact h 9999
theorem check_int {k : TypeId} {q : IntKind} (hk : P.underlying k = some (.int q)) (em : Bool) (z : Int) : (Instr.checkKey em 10000 k (.int q z)).run P w = .ok () w := by
  have h : ∀ n : Nat, (Instr.checkKey em (n + 1) k (.int q z)).run P w = .ok () w := fun n => by simp [Instr.checkKey, run_underlying hk, Result.andThen]
  exact h 9999
theorem stays_ptr (a : Option Addr) : (Instr.keyThatStays (.pointer a) (.pointer a)).run P w = .ok (.pointer a) w := by
  have h : ∀ n : Nat, Instr.sameBits n (.pointer a) (.pointer a) = true := fun n => by cases n <;> simp [Instr.sameBits]
  simp [Instr.keyThatStays, h 10000]
theorem stays_int (q : IntKind) (z : Int) : (Instr.keyThatStays (.int q z) (.int q z)).run P w = .ok (.int q z) w := by
  have h : ∀ n : Nat, Instr.sameBits n (.int q z) (.int q z) = true := fun n => by cases n <;> simp [Instr.sameBits]
  simp [Instr.keyThatStays, h 10000]

theorem lookup_map {t k e : TypeId} {b clock : Nat} {es : Array MapEntry} {key z : Value} (c : Bool) (ht : P.underlying t = some (.map k e)) (hb : w.heap[b]? = some (.map es clock)) (hck : ∀ em, (Instr.checkKey em 10000 k key).run P w = .ok () w)
    (hf : Found P w k key es.toList) (hz : (zeroValue e).run P w = .ok z w) :
    ((Instr.lookup t (.map (some b)) key c).run P w = .ok (if c then .tuple #[z, .bool false] else z) w ∧ ∀ x ∈ es.toList, x.key ≠ key) ∨
    ∃ e0 ∈ es.toList, e0.key = key ∧ (Instr.lookup t (.map (some b)) key c).run P w = .ok (if c then .tuple #[e0.val, .bool true] else e0.val) w := by
  rcases hf with ⟨h1, h2⟩ | ⟨j, e0, h1, h2, h3⟩
  · exact .inl ⟨by simp [Instr.lookup, run_underlying ht, MapKept.run_getObj_map hb, hck, h1, hz, Result.andThen], h2⟩
  · exact .inr ⟨e0, List.mem_of_getElem? h2, h3, by simp [Instr.lookup, run_underlying ht, MapKept.run_getObj_map hb, hck, h1, Result.andThen]⟩
theorem lookup_nil {t k e : TypeId} {key z : Value} (c : Bool) (ht : P.underlying t = some (.map k e)) (hk : P.underlying k = some (.int .i64)) (hck : ∀ em, (Instr.checkKey em 10000 k key).run P w = .ok () w) (hz : (zeroValue e).run P w = .ok z w) :
    (Instr.lookup t (.map none) key c).run P w = .ok (if c then .tuple #[z, .bool false] else z) w := by
  have hf : (Instr.findKey k key []).run P w = .ok none w := by simp [Instr.findKey, run_underlying hk, Result.andThen, Instr.findNow]
  simp [Instr.lookup, run_underlying ht, hck, hf, hz, Result.andThen]

/-- What an update leaves. -/
theorem update_map {t k e : TypeId} {b clock : Nat} {es : Array MapEntry} {key val : Value} (ht : P.underlying t = some (.map k e)) (hb : w.heap[b]? = some (.map es clock)) (hck : ∀ em, (Instr.checkKey em 10000 k key).run P w = .ok () w)
    (hf : Found P w k key es.toList) (hst : (Instr.keyThatStays key key).run P w = .ok key w) :
    ∃ es' clock', (Instr.mapUpdate t (.map (some b)) key val).run P w = .ok () (ChangeMaps.setBlock w b (.map es' clock')) ∧ (∀ x ∈ es'.toList, x ∈ es.toList ∨ (x.key = key ∧ x.val = val)) ∧ ∃ x ∈ es'.toList, x.key = key ∧ x.val = val := by
  rcases hf with ⟨h1, h2⟩ | ⟨j, e0, h1, h2, h3⟩
  · refine ⟨es.push ⟨key, val, clock⟩, clock + 1, ?_, fun x hx => ?_, ⟨key, val, clock⟩, by simp, rfl, rfl⟩
    · simp [Instr.mapUpdate, run_underlying ht, MapKept.run_getObj_map hb, hck false, h1, MapKept.run_setObj_map _ hb, Result.andThen, ChangeMaps.setBlock]
    · simp only [Array.toList_push, List.mem_append, List.mem_singleton] at hx
      rcases hx with hx | rfl
      · exact .inl hx
      · exact .inr ⟨rfl, rfl⟩
  · have hj : j < es.size := by simpa using (List.getElem?_eq_some_iff.1 h2).1
    have he : es[j]? = some e0 := by simpa using h2
    have hs2 : (Instr.keyThatStays (((es[j]?).map (·.key)).getD key) key).run P w = .ok key w := by
      rw [he]; show (Instr.keyThatStays e0.key key).run P w = _; rw [h3]; exact hst
    refine ⟨es.modify j fun e => { e with key := key, val := val }, clock, ?_, fun x hx => ?_, { e0 with key := key, val := val }, ?_, rfl, rfl⟩
    · simp [Instr.mapUpdate, run_underlying ht, MapKept.run_getObj_map hb, hck false, h1, hs2, MapKept.run_setObj_map _ hb, Result.andThen, ChangeMaps.setBlock]
    · obtain ⟨i, hi, rfl⟩ := List.getElem_of_mem hx
      simp only [Array.length_toList, Array.size_modify] at hi
      by_cases hij : j = i
      · subst hij
        exact .inr ⟨by simp, by simp⟩
      · refine .inl ?_
        simp only [Array.getElem_toList, Array.getElem_modify, if_neg hij]
        exact Array.getElem_mem_toList hi
    · have h4 : (es.modify j fun e => { e with key := key, val := val })[j]? = some { e0 with key := key, val := val } := by
        rw [Array.getElem?_modify, if_pos rfl, he]; rfl
      exact List.mem_of_getElem? (i := j) (by rw [Array.getElem?_toList]; exact h4)
end

theorem setBlock_grown {w : World} {b clock : Nat} {es : Array MapEntry} (hb : w.heap[b]? = some (.map es clock)) (o : Obj) : w.grownBy (ChangeMaps.setBlock w b o) (some b) :=
  ⟨rfl, rfl, rfl, by simp [ChangeMaps.setBlock], fun i _ hi => ChangeMaps.heap_setBlock_other hb _ (fun e => hi (by rw [e]))⟩
end Go.Proofs.YtadgiknnejjplaaDoor
