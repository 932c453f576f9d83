/- Contracts of the program's functions and what they compute: part 14. Conditions: those that each theorem states. -/
import Derived.Test.YtihomcedaaiidaaGreatDoorP55n9
import Derived.Test.YtihomcedaaiidaaGreatDoorP55n10
import Derived.Test.YtihomcedaaiidaaGreatDoorP55n13
import Derived.Deep.DeepCutAuto
namespace Go.Proofs.YtihomcedaaiidaaGreatDoor
open Go.RowKit
set_option linter.unusedVariables false
set_option maxRecDepth 100000
theorem ptrInfo5 : (Tryz.prog.info? 60).map (·.size) = some 5 := by kernel_rfl
theorem ptr_info : ∃ j : TypeInfo, Tryz.prog.info? 60 = some j ∧ j.size ≠ 0 := by
  cases h : Tryz.prog.info? 60 with
  | none => have := ptrInfo5; rw [h] at this; cases this
  | some j =>
    refine ⟨j, rfl, ?_⟩
    have h5 := ptrInfo5
    rw [h] at h5
    have h5 : j.size = 5 := Option.some.inj h5
    omega
section
variable {F G : Nat → Prop} {w : World} {kb : Nat} {a : Gs.St} {φ : Fm.T} {p : Nat}
theorem memo_found (h : Memo F G w kb a) (hT : Tree F w φ p) {es : Array MapEntry} (hes : ∀ x ∈ es.toList, ∃ (q r : Nat) (ψ : Fm.T), x.key = ptrV q ∧ x.val = .map (some r) ∧ Tree F w ψ q ∧ G r ∧ r ≠ kb ∧ Known w a ψ r) :
    Found Tryz.prog w 51 (ptrV p) es.toList := by
  obtain ⟨j, hj, hj5⟩ := ptr_info
  obtain ⟨_, cp, tp, hp⟩ := hT.ptr
  exact found_ptr Tryz.underlying51 hj hj5 p hp _ (fun e he => by
    obtain ⟨q, r, ψ, e1, e2, t, _⟩ := hes e he
    rw [e1]; exact ⟨q, t.ptr⟩)
theorem map_look {w : World} {b clock : Nat} {es : Array MapEntry} {x : Value} (hb : w.heap[b]? = some (.map es clock)) (hf : Found Tryz.prog w 51 x es.toList) (a : Option Addr) (hx : x = .pointer a) :
    ((Instr.lookup 117 (.map (some b)) x false).run Tryz.prog w = .ok (.map none) w ∧ ∀ e ∈ es.toList, e.key ≠ x) ∨
    ∃ e0 ∈ es.toList, e0.key = x ∧ (Instr.lookup 117 (.map (some b)) x false).run Tryz.prog w = .ok e0.val w := by
  subst hx
  exact lookup_map false Tryz.underlying117 hb (fun em => check_ptr Tryz.underlying51 em _) hf (Tryz.zeroValue150 w)
theorem int_look {w : World} {b clock : Nat} {es : Array MapEntry} {z : Int} (hb : w.heap[b]? = some (.map es clock)) (hf : Found Tryz.prog w 3 (.int .i64 z) es.toList) :
    ((Instr.lookup 150 (.map (some b)) (.int .i64 z) true).run Tryz.prog w = .ok (.tuple #[.bool false, .bool false]) w ∧ ∀ e ∈ es.toList, e.key ≠ .int .i64 z) ∨
    ∃ e0 ∈ es.toList, e0.key = .int .i64 z ∧ (Instr.lookup 150 (.map (some b)) (.int .i64 z) true).run Tryz.prog w = .ok (.tuple #[e0.val, .bool true]) w :=
  lookup_map true Tryz.underlying150 hb (fun em => check_int Tryz.underlying3 em _) hf (Tryz.zeroValue4 w)
/-- The formula is looked up: nothing, or its own map. -/
theorem memo_look (h : Memo F G w kb a) (hT : Tree F w φ p) :
    ((Instr.lookup 117 (.map (some kb)) (ptrV p) false).run Tryz.prog w = .ok (.map none) w ∧ ∃ es clock, w.heap[kb]? = some (.map es clock) ∧ ∀ e ∈ es.toList, e.key ≠ ptrV p) ∨
    ∃ r, (Instr.lookup 117 (.map (some kb)) (ptrV p) false).run Tryz.prog w = .ok (.map (some r)) w ∧ G r ∧ r ≠ kb ∧ Known w a φ r ∧ ∃ es clock, w.heap[kb]? = some (.map es clock) ∧ ∃ e ∈ es.toList, e.key = ptrV p ∧ e.val = .map (some r) := by
  obtain ⟨es, clock, hb, hes, _⟩ := h.map
  rcases map_look hb (memo_found h hT hes) _ rfl with ⟨h1, h2⟩ | ⟨e0, h1, h2, h3⟩
  · exact .inl ⟨h1, es, clock, hb, h2⟩
  · obtain ⟨q, r, ψ, e1, e2, t, g, n, k⟩ := hes e0 h1
    have hqp : q = p := by
      rw [h2] at e1
      unfold ptrV at e1
      injection e1 with e1; injection e1 with e1; injection e1 with e1
      exact e1.symm
    subst hqp
    have hψ : ψ = φ := Tree.inj _ (Nat.le_refl _) t hT
    subst hψ
    refine .inr ⟨r, ?_, g, n, k, es, clock, hb, e0, h1, h2, e2⟩
    rw [← e2]; exact h3
theorem known_found {es : Array MapEntry} (hes : ∀ y ∈ es.toList, ∃ (k : Nat) (b : Bool), y.key = .int .i64 (k : Int) ∧ y.val = .bool b ∧ ∀ e : Fm.Env, (∀ v, e v < 8) → Fm.keyN φ e = k → b = Fm.holds a φ e) (z : Int) : Found Tryz.prog w 3 (.int .i64 z) es.toList :=
  found_int Tryz.underlying3 z _ (fun e he => by
    obtain ⟨k, b, e1, _⟩ := hes e he
    exact ⟨_, e1⟩)
/-- A truth is asked for. -/
theorem known_look {r : Nat} (hk : Known w a φ r) {e : Fm.Env} (he : ∀ v, e v < 8) :
    ∃ b ok : Bool, (Instr.lookup 150 (.map (some r)) (.int .i64 ((Fm.keyN φ e : Nat) : Int)) true).run Tryz.prog w = .ok (.tuple #[.bool b, .bool ok]) w ∧ (ok = true → b = Fm.holds a φ e) := by
  obtain ⟨es, clock, hb, hes⟩ := hk
  rcases int_look hb (known_found hes _) with ⟨h1, _⟩ | ⟨e0, h1, h2, h3⟩
  · exact ⟨false, false, h1, fun h => by cases h⟩
  · obtain ⟨k, b, e1, e2, e3⟩ := hes e0 h1
    rw [h2] at e1
    injection e1 with _ e1
    refine ⟨b, true, ?_, fun _ => e3 e he (by omega)⟩
    rw [e2] at h3
    exact h3
theorem none_look {z : Int} : (Instr.lookup 150 (.map none) (.int .i64 z) true).run Tryz.prog w = .ok (.tuple #[.bool false, .bool false]) w :=
  lookup_nil true Tryz.underlying150 Tryz.underlying3 (fun em => check_int Tryz.underlying3 em _) (Tryz.zeroValue4 w)
/-- Both look-ups. -/
theorem memo_get (h : Memo F G w kb a) (hT : Tree F w φ p) {e : Fm.Env} (he : ∀ v, e v < 8) :
    ∃ (V : Value) (b ok : Bool), (Instr.lookup 117 (.map (some kb)) (ptrV p) false).run Tryz.prog w = .ok V w ∧
      (Instr.lookup 150 V (.int .i64 ((Fm.keyN φ e : Nat) : Int)) true).run Tryz.prog w = .ok (.tuple #[.bool b, .bool ok]) w ∧ (ok = true → b = Fm.holds a φ e) := by
  rcases memo_look h hT with ⟨h1, _⟩ | ⟨r, h1, _, _, hk, _⟩
  · exact ⟨_, false, false, h1, none_look, fun h => by cases h⟩
  · obtain ⟨b, ok, h2, h3⟩ := known_look hk he
    exact ⟨_, b, ok, h1, h2, h3⟩
theorem run_put {w : World} {r clock : Nat} {es : Array MapEntry} {z : Int} (val : Value) (hb : w.heap[r]? = some (.map es clock)) (hf : Found Tryz.prog w 3 (.int .i64 z) es.toList) :
    ∃ es' clock', (Instr.mapUpdate 150 (.map (some r)) (.int .i64 z) val).run Tryz.prog w = .ok () (ChangeMaps.setBlock w r (.map es' clock')) ∧ (∀ x ∈ es'.toList, x ∈ es.toList ∨ (x.key = .int .i64 z ∧ x.val = val)) ∧ ∃ x ∈ es'.toList, x.key = .int .i64 z ∧ x.val = val :=
  update_map Tryz.underlying150 hb (fun em => check_int Tryz.underlying3 em _) hf (stays_int _ _)
theorem run_new {w : World} {b clock : Nat} {es : Array MapEntry} (a : Option Addr) (val : Value) (hb : w.heap[b]? = some (.map es clock)) (hf : Found Tryz.prog w 51 (.pointer a) es.toList) :
    ∃ es' clock', (Instr.mapUpdate 117 (.map (some b)) (.pointer a) val).run Tryz.prog w = .ok () (ChangeMaps.setBlock w b (.map es' clock')) ∧ (∀ x ∈ es'.toList, x ∈ es.toList ∨ (x.key = .pointer a ∧ x.val = val)) ∧ ∃ x ∈ es'.toList, x.key = .pointer a ∧ x.val = val :=
  update_map Tryz.underlying117 hb (fun em => check_ptr Tryz.underlying51 em _) hf (stays_ptr _)
/-- A truth is kept. -/
theorem memo_put (h : Memo F G w kb a) (hT : Tree F w φ p) {r : Nat} (hl : (Instr.lookup 117 (.map (some kb)) (ptrV p) false).run Tryz.prog w = .ok (.map (some r)) w) {e : Fm.Env} (he : ∀ v, e v < 8) :
    ∃ w', (Instr.mapUpdate 150 (.map (some r)) (.int .i64 ((Fm.keyN φ e : Nat) : Int)) (.bool (Fm.holds a φ e))).run Tryz.prog w = .ok () w' ∧ EverP F G kb a w w' := by
  rcases memo_look h hT with ⟨h1, _⟩ | ⟨r', h1, hg, hn, hk, ms, mc, m1, e0, x1, x2, x3⟩
  · rw [hl] at h1
    injection h1 with h1; injection h1 with h1; cases h1
  have hrr : r' = r := by
    rw [hl] at h1
    injection h1 with h1; injection h1 with h1; injection h1 with h1
    exact h1.symm
  subst hrr
  obtain ⟨es, clock, hb, hes⟩ := hk
  obtain ⟨es', clock', u1, u2, _⟩ := run_put (.bool (Fm.holds a φ e)) hb (known_found (a := a) (φ := φ) hes ((Fm.keyN φ e : Nat) : Int))
  have hgr := setBlock_grown hb (.map es' clock')
  have hoff : Off G w (ChangeMaps.setBlock w r' (.map es' clock')) := Off.grown hgr (fun b hb => by injection hb with hb; rw [← hb]; exact hg)
  have hsame : (ChangeMaps.setBlock w r' (.map es' clock')).heap[r']? = some (.map es' clock') := ChangeMaps.heap_setBlock_same hb _
  have hother : ∀ b, b ≠ r' → (ChangeMaps.setBlock w r' (.map es' clock')).heap[b]? = w.heap[b]? := fun b hb' => ChangeMaps.heap_setBlock_other hb _ hb'
  obtain ⟨ms2, mc2, k1, k2, k3⟩ := h.map
  have hms : ms2 = ms := by
    rw [m1] at k1
    injection k1 with k1; injection k1 with k1 _
    exact k1.symm
  subst hms
  refine ⟨_, u1, hoff, G, ⟨h.own, fun b hb => Nat.lt_of_lt_of_le (h.lt b hb) hoff.size, fun b hb => Nat.lt_of_lt_of_le (h.flt b hb) hoff.size, h.apart, ms2, mc2, (hother kb (Ne.symm hn)).trans k1, fun x hx => ?_, k3⟩, fun b hb => .inl hb⟩
  obtain ⟨q, s, ψ, e1, e2, t, g, n, k⟩ := k2 x hx
  refine ⟨q, s, ψ, e1, e2, t.off hoff h.apart, g, n, ?_⟩
  by_cases hs : s = r'
  · subst hs
    have hkey := k3 x hx e0 x1 (by rw [e2, x3])
    have hqp : q = p := by
      rw [e1, x2] at hkey
      unfold ptrV at hkey
      injection hkey with hkey; injection hkey with hkey; injection hkey with hkey
    subst hqp
    have hψ : ψ = φ := Tree.inj _ (Nat.le_refl _) t hT
    subst hψ
    refine ⟨es', clock', hsame, fun y hy => ?_⟩
    rcases u2 y hy with h3 | ⟨h3, h4⟩
    · exact hes y h3
    · exact ⟨_, _, h3, h4, fun e' he' hk' => Fm.key_holds a ψ he he' hk'.symm⟩
  · exact k.kept (hother s hs)
/-- A formula that is new gets a map. -/
theorem memo_new (h : Memo F G w kb a) (hT : Tree F w φ p) (hl : (Instr.lookup 117 (.map (some kb)) (ptrV p) false).run Tryz.prog w = .ok (.map none) w) :
    ∃ w', (Instr.mapUpdate 117 (.map (some kb)) (ptrV p) (.map (some w.heap.size))).run Tryz.prog (w.alloc (.map #[] 0)) = .ok () w' ∧ EverP F G kb a w w' ∧
      (Instr.lookup 117 (.map (some kb)) (ptrV p) false).run Tryz.prog w' = .ok (.map (some w.heap.size)) w' := by
  rcases memo_look h hT with ⟨_, ms, mc, m1, m2⟩ | ⟨r', h1, _⟩
  case inr =>
    rw [hl] at h1
    injection h1 with h1; injection h1 with h1; cases h1
  have hB : Below w.heap.size w (w.alloc (.map #[] 0)) := (Below.refl _ _).alloc (Nat.le_refl _) _
  have hM := h.below hB
  have hTT := hT.below hB
  obtain ⟨ms2, mc2, k1, k2, k3⟩ := hM.map
  have hk1 : (w.alloc (.map #[] 0)).heap[kb]? = some (.map ms mc) := (hB.block kb (h.lt _ h.own)).trans m1
  have hms : ms2 = ms := by
    rw [hk1] at k1
    injection k1 with k1; injection k1 with k1 _
    exact k1.symm
  subst hms
  have hf := memo_found hM hTT k2
  obtain ⟨es', clock', u1, u2, u3⟩ := run_new (some ⟨p, 0, none⟩) (.map (some w.heap.size)) hk1 hf
  have hgr := setBlock_grown hk1 (.map es' clock')
  have hsz : (w.alloc (.map #[] 0)).heap.size = w.heap.size + 1 := by simp
  have hoff1 : Off G (w.alloc (.map #[] 0)) (ChangeMaps.setBlock (w.alloc (.map #[] 0)) kb (.map es' clock')) := Off.grown hgr (fun b hb => by injection hb with hb; rw [← hb]; exact h.own)
  have hoff : Off G w (ChangeMaps.setBlock (w.alloc (.map #[] 0)) kb (.map es' clock')) := (Off.of_below (F := G) hB).trans hoff1 (fun b hb => .inl hb)
  have hother : ∀ b, b ≠ kb → (ChangeMaps.setBlock (w.alloc (.map #[] 0)) kb (.map es' clock')).heap[b]? = (w.alloc (.map #[] 0)).heap[b]? := fun b hb' => ChangeMaps.heap_setBlock_other hk1 _ hb'
  have hnew : (ChangeMaps.setBlock (w.alloc (.map #[] 0)) kb (.map es' clock')).heap[w.heap.size]? = some (.map #[] 0) := by
    rw [hother _ (by have := h.lt _ h.own; omega)]
    exact (MapKept.heap_alloc w (.map #[] 0)).1
  have hkb := h.lt _ h.own
  have hM' : Memo F (fun b => G b ∨ b = w.heap.size) (ChangeMaps.setBlock (w.alloc (.map #[] 0)) kb (.map es' clock')) kb a := by
    refine ⟨.inl h.own, fun b hb => ?_, fun b hf => Nat.lt_of_lt_of_le (h.flt b hf) hoff.size, fun b hf hg => ?_, es', clock', ChangeMaps.heap_setBlock_same hk1 _, fun x hx => ?_, fun x hx y hy hxy => ?_⟩
    · have hz : (ChangeMaps.setBlock (w.alloc (.map #[] 0)) kb (.map es' clock')).heap.size = w.heap.size + 1 := by simp [ChangeMaps.setBlock]
      rw [hz]
      rcases hb with hb | hb
      · have := h.lt b hb; omega
      · omega
    · rcases hg with hg | hg
      · exact h.apart b hf hg
      · have := h.flt b hf; omega
    · rcases u2 x hx with h3 | ⟨h3, h4⟩
      · obtain ⟨q, s, ψ, e1, e2, t, g, n, k⟩ := k2 x h3
        exact ⟨q, s, ψ, e1, e2, t.off hoff1 h.apart, .inl g, n, k.kept (hother s n)⟩
      · exact ⟨p, w.heap.size, φ, h3, h4, hTT.off hoff1 h.apart, .inr rfl, by omega, ⟨#[], 0, hnew, fun y hy => by simp at hy⟩⟩
    · have old : ∀ z ∈ ms2.toList, z.val ≠ .map (some w.heap.size) := fun z hz e => by
        obtain ⟨q, s, ψ, e1, e2, t, g, n, k⟩ := k2 z hz
        rw [e2] at e
        injection e with e; injection e with e
        have := h.lt s g
        omega
      rcases u2 x hx with h3 | ⟨h3, h4⟩
      · rcases u2 y hy with h5 | ⟨h5, h6⟩
        · exact k3 x h3 y h5 hxy
        · exact absurd (hxy.trans h6) (old x h3)
      · rcases u2 y hy with h5 | ⟨h5, h6⟩
        · exact absurd (hxy.symm.trans h4) (old y h5)
        · rw [h3, h5]
  refine ⟨_, u1, ⟨hoff, _, hM', fun b hb => ?_⟩, ?_⟩
  · rcases hb with hb | hb
    · exact .inl hb
    · exact .inr (by omega)
  · have hT' := hTT.off hoff1 h.apart
    rcases memo_look hM' hT' with ⟨_, ms3, mc3, k4, k5⟩ | ⟨r, h1, _, _, _, ms3, mc3, k4, e0, x1, x2, x3⟩
    · have h9 := ChangeMaps.heap_setBlock_same hk1 (.map es' clock')
      rw [h9] at k4
      injection k4 with k4; injection k4 with k4 _
      subst k4
      obtain ⟨x, v1, v2, v3⟩ := u3
      exact absurd v2 (k5 x v1)
    · have h9 := ChangeMaps.heap_setBlock_same hk1 (.map es' clock')
      rw [h9] at k4
      injection k4 with k4; injection k4 with k4 _
      subst k4
      rcases u2 e0 x1 with h3 | ⟨h3, h4⟩
      · exact absurd x2 (m2 e0 h3)
      · rw [x3] at h4
        injection h4 with h4; injection h4 with h4
        rw [← h4]; exact h1
end
end Go.Proofs.YtihomcedaaiidaaGreatDoor
namespace Go.Proofs.YtihomcedaaiidaaGreatDoor
open Go.RowKit
set_option linter.unusedVariables false
theorem env_index0 (e : Fm.Env) (w : World) :
    (Instr.index 77 (.agg #[.int .i64 ((e 0 : Nat) : Int), .int .i64 ((e 1 : Nat) : Int), .int .i64 ((e 2 : Nat) : Int), .int .i64 ((e 3 : Nat) : Int)]) (.int .i64 0)).run Tryz.prog w = .ok (.int .i64 ((e 0 : Nat) : Int)) w := by kernel_rfl
theorem env_index1 (e : Fm.Env) (w : World) :
    (Instr.index 77 (.agg #[.int .i64 ((e 0 : Nat) : Int), .int .i64 ((e 1 : Nat) : Int), .int .i64 ((e 2 : Nat) : Int), .int .i64 ((e 3 : Nat) : Int)]) (.int .i64 1)).run Tryz.prog w = .ok (.int .i64 ((e 1 : Nat) : Int)) w := by kernel_rfl
theorem env_index2 (e : Fm.Env) (w : World) :
    (Instr.index 77 (.agg #[.int .i64 ((e 0 : Nat) : Int), .int .i64 ((e 1 : Nat) : Int), .int .i64 ((e 2 : Nat) : Int), .int .i64 ((e 3 : Nat) : Int)]) (.int .i64 2)).run Tryz.prog w = .ok (.int .i64 ((e 2 : Nat) : Int)) w := by kernel_rfl
theorem env_index3 (e : Fm.Env) (w : World) :
    (Instr.index 77 (.agg #[.int .i64 ((e 0 : Nat) : Int), .int .i64 ((e 1 : Nat) : Int), .int .i64 ((e 2 : Nat) : Int), .int .i64 ((e 3 : Nat) : Int)]) (.int .i64 3)).run Tryz.prog w = .ok (.int .i64 ((e 3 : Nat) : Int)) w := by kernel_rfl
theorem new_map (w : World) : (Instr.makeMap 150 none).run Tryz.prog w = .ok (.map (some w.heap.size)) (w.alloc (.map #[] 0)) := by kernel_rfl
theorem nil_map (w : World) : (binOp BinOp.eql 150 (.map none) (.map none)).run Tryz.prog w = .ok (.bool true) w := by kernel_rfl
theorem not_nil_map (w : World) (r : Nat) : (binOp BinOp.eql 150 (.map (some r)) (.map none)).run Tryz.prog w = .ok (.bool false) w := by kernel_rfl
theorem ofInt_nat64 (a : Nat) (ha : a < 9223372036854775808) : (BitVec.ofInt 64 (a : Int)).toNat = a := by
  rw [BitVec.toNat_ofInt]; omega
theorem i64_and_one (a : Nat) (ha : a < 9223372036854775808) : bits .and .i64 (a : Int) 1 = ((a % 2 : Nat) : Int) := by
  show IntKind.i64.wrap ((BitVec.ofInt 64 (a : Int) &&& BitVec.ofInt 64 ((1 : Nat) : Int)).toNat : Int) = _
  rw [BitVec.toNat_and, ofInt_nat64 a ha, ofInt_nat64 1 (by omega), Nat.and_one_is_mod]
  exact IntWalk.i64_in _ (by omega)
theorem bit_cases (fr c : Nat) (hf : fr < 16) : (bits .and .i64 ((fr : Int) / (c : Int)) 1 = 0 ∧ ¬ fr / c % 2 = 1) ∨ (bits .and .i64 ((fr : Int) / (c : Int)) 1 = 1 ∧ fr / c % 2 = 1) := by
  have h := i64_and_one (fr / c) (Nat.lt_of_le_of_lt (Nat.div_le_self _ _) (by omega))
  rw [Int.natCast_ediv] at h
  rcases (show fr / c % 2 = 0 ∨ fr / c % 2 = 1 by omega) with h0 | h0
  · rw [h0] at h
    exact .inl ⟨h, by omega⟩
  · rw [h0] at h
    exact .inr ⟨h, h0⟩
theorem i64_or_nat (a b : Nat) (ha : a < 9223372036854775808) (hb : b < 9223372036854775808) : bits .or .i64 (a : Int) (b : Int) = ((a ||| b : Nat) : Int) := by
  show IntKind.i64.wrap ((BitVec.ofInt 64 (a : Int) ||| BitVec.ofInt 64 (b : Int)).toNat : Int) = _
  rw [BitVec.toNat_or, ofInt_nat64 a ha, ofInt_nat64 b hb]
  have : a ||| b < 2 ^ 63 := Nat.or_lt_two_pow ha hb
  exact IntWalk.i64_in _ (by omega)
theorem EverP.then {F G G' : Nat → Prop} {kb : Nat} {a : Gs.St} {w w1 w2 : World} (h : EverP F G kb a w w1) (hG : ∀ b, G' b → G b ∨ w.heap.size ≤ b) (k : EverP F G' kb a w1 w2) : EverP F G kb a w w2 := by
  obtain ⟨G2, m2, hG2⟩ := k.memo
  refine ⟨h.off.trans k.off hG, G2, m2, fun b hb => ?_⟩
  rcases hG2 b hb with h3 | h3
  · exact hG b h3
  · exact .inr (Nat.le_trans h.off.size h3)
set_option maxRecDepth 100000 in
set_option maxHeartbeats 2000000 in
theorem isTrue_of (φ : Fm.T) (HD : Hid (DecideOK φ)) : TrueOK φ := by
  intro F G w hb kb n S R p e hB hT he
  have he8 : ∀ v, e v < 8 := fun v => Nat.lt_of_lt_of_le (he v) hB.n8
  have hBW := hB.below ((Below.refl w.heap.size w).alloc (Nat.le_refl _) (.cells (envC e) 77))
  have hTW := hT.below ((Below.refl w.heap.size w).alloc (Nat.le_refl _) (.cells (envC e) 77))
  have hEW := EverP.of_below hB.memo ((Below.refl w.heap.size w).alloc (Nat.le_refl _) (.cells (envC e) 77))
  have hbox : (w.alloc (.cells (envC e) 77)).heap[w.heap.size]? = some (.cells (envC e) 77 (0, 0)) := heap_alloc_new w _
  have hGB : ¬ G w.heap.size := fun hg => by have := hB.memo.lt _ hg; omega
  obtain ⟨W, hW⟩ : ∃ W, w.alloc (.cells (envC e) 77) = W := ⟨_, rfl⟩
  rw [hW] at hBW hTW hEW hbox
  unfold envC at hW hbox
  have HW := Lib.hid hW
  obtain ⟨v, u, qs, nd, _⟩ := hTW.node
  have c3 := nd.cells.2.2.2.1
  have hfr := Fm.free_lt φ
  have h3 := hBW.hold.cells.2.2.2.1
  obtain ⟨V, b, ok, m1, m2, m3⟩ := memo_get hBW.memo hTW he8
  have HBW := Lib.hid hBW; have HTW := Lib.hid hTW; have HEW := Lib.hid hEW; have HBX := Lib.hid hbox; have HGB := Lib.hid hGB
  have HE := Lib.hid he; have HE8 := Lib.hid he8
  have M3 := Lib.hid m3; have M1 := Lib.hid m1; have M2 := Lib.hid m2
  have HK : Hid (Fm.keyTo (Fm.free φ) e 4 = Fm.keyN φ e) := rfl
  generalize hfv : Fm.free φ = fr at *
  have HFV := Lib.hid hfv
  obtain ⟨x5, hx5⟩ : ∃ x, w.heap.size = x := ⟨_, rfl⟩
  have HX5 := Lib.hid hx5
  clear nd hB hT he he8 m3 hfv hBW hTW hEW hbox hW m1 m2 hGB
  unfold envV ptrV
  unfold ptrV at M1
  go_enter Tryz.func87, Tryz.ntmps87
  go_wp2_with fail
  rw [HW.out]
  clear hx5
  go_loop [7, 14, 8, 9] (fun key i _ _ => (i = .int .i64 0 ∧ key = .int .i64 0) ∨ (i = .int .i64 1 ∧ key = .int .i64 ((Fm.keyTo fr e 1 : Nat) : Int)) ∨ (i = .int .i64 2 ∧ key = .int .i64 ((Fm.keyTo fr e 2 : Nat) : Int)) ∨ (i = .int .i64 3 ∧ key = .int .i64 ((Fm.keyTo fr e 3 : Nat) : Int)) ∨ (i = .int .i64 4 ∧ key = .int .i64 ((Fm.keyTo fr e 4 : Nat) : Int))) (fun _ i _ _ => (4 - intOf i).toNat)
  case atStart => exact .inl ⟨rfl, rfl⟩
  case round =>
    have HK1 : Hid (bits .or .i64 0 ((e 0 : Nat) : Int) = ((e 0 : Nat) : Int)) := by
      have h := i64_or_nat 0 (e 0) (by omega) (by have := HE8.out 0; omega)
      rw [Nat.zero_or] at h
      exact h
    have orK : ∀ (j : Nat) (hj : j < 4), fr / 2 ^ j % 2 = 1 → bits .or .i64 ((Fm.keyTo fr e j : Nat) : Int) (((Fm.eAt e j : Nat) : Int) * ((8 ^ j : Nat) : Int)) = ((Fm.keyTo fr e (j + 1) : Nat) : Int) := by
      intro j hj hb
      have h8 : (8 : Nat) ^ j ≤ 512 := by
        rcases (show j = 0 ∨ j = 1 ∨ j = 2 ∨ j = 3 by omega) with rfl | rfl | rfl | rfl <;> decide
      have h1 := Fm.keyTo_lt (s := fr) HE8.out j
      have h2 := Fm.eAt_lt HE8.out j
      have h3 : Fm.eAt e j * 8 ^ j ≤ 7 * 512 := Nat.mul_le_mul (by omega) h8
      rw [← Int.natCast_mul, i64_or_nat _ _ (by omega) (by omega), Fm.key_or HE8.out j hb]
    have ORK := Lib.hid orK
    have NOT := Lib.hid (fun (j : Nat) (hb : ¬ fr / 2 ^ j % 2 = 1) => Fm.key_not (s := fr) (e := e) j hb)
    clear orK
    rcases hrel with ⟨rfl, rfl⟩ | ⟨rfl, rfl⟩ | ⟨rfl, rfl⟩ | ⟨rfl, rfl⟩ | ⟨rfl, rfl⟩
    · have hix := env_index0 e W
      have g0 : (e 0) < 8 := HE8.out 0
      rcases bit_cases fr 1 hfr with ⟨hb, hb2⟩ | ⟨hb, hb2⟩
      · have hb : bits .and .i64 (fr : Int) 1 = 0 := by simpa using hb
        have HE1 : Hid (((Fm.keyTo fr e 1 : Nat) : Int) = 0) := by
          show _ = _
          rw [NOT.out 0 (by simpa using hb2)]; rfl
        clear hb2
        go_wp2_with fail
        go_round
        case rel => exact .inr (.inl ⟨rfl, by rw [HE1.out]⟩)
        case measure => simp [intOf]
      · have hb : bits .and .i64 (fr : Int) 1 = 1 := by simpa using hb
        have HE1 : Hid (((Fm.keyTo fr e 1 : Nat) : Int) = ((e 0 : Nat) : Int)) := by
          show _ = _
          have h := ORK.out 0 (by omega) (by simpa using hb2)
          rw [← h]
          have e1 : ((8 ^ 0 : Nat) : Int) = 1 := rfl
          rw [e1, Int.mul_one]
          exact HK1.out
        have hk1 := HK1.out
        clear hb2
        go_wp2_with fail
        go_round
        case rel => exact .inr (.inl ⟨rfl, by rw [HE1.out]⟩)
        case measure => simp [intOf]
    · have hix := env_index1 e W
      have g0 : (e 1) < 8 := HE8.out 1
      rcases bit_cases fr 2 hfr with ⟨hb, hb2⟩ | ⟨hb, hb2⟩
      · have hb : bits .and .i64 ((fr : Int) / 2) 1 = 0 := hb
        have HE1 : Hid (Fm.keyTo fr e 2 = Fm.keyTo fr e 1) := NOT.out 1 hb2
        clear hb2
        go_wp2_with fail
        go_round
        case rel => exact .inr (.inr (.inl ⟨rfl, by rw [HE1.out]⟩))
        case measure => simp [intOf]
      · have hb : bits .and .i64 ((fr : Int) / 2) 1 = 1 := hb
        have hk1 : bits .or .i64 ((Fm.keyTo fr e 1 : Nat) : Int) (((e 1 : Nat) : Int) * 8) = ((Fm.keyTo fr e 2 : Nat) : Int) := ORK.out 1 (by omega) hb2
        clear hb2
        go_wp2_with fail
        go_round
        case rel => exact .inr (.inr (.inl ⟨rfl, rfl⟩))
        case measure => simp [intOf]
    · have hix := env_index2 e W
      have g0 : (e 2) < 8 := HE8.out 2
      rcases bit_cases fr 4 hfr with ⟨hb, hb2⟩ | ⟨hb, hb2⟩
      · have hb : bits .and .i64 ((fr : Int) / 4) 1 = 0 := hb
        have HE1 : Hid (Fm.keyTo fr e 3 = Fm.keyTo fr e 2) := NOT.out 2 hb2
        clear hb2
        go_wp2_with fail
        go_round
        case rel => exact .inr (.inr (.inr (.inl ⟨rfl, by rw [HE1.out]⟩)))
        case measure => simp [intOf]
      · have hb : bits .and .i64 ((fr : Int) / 4) 1 = 1 := hb
        have hk1 : bits .or .i64 ((Fm.keyTo fr e 2 : Nat) : Int) (((e 2 : Nat) : Int) * 64) = ((Fm.keyTo fr e 3 : Nat) : Int) := ORK.out 2 (by omega) hb2
        clear hb2
        go_wp2_with fail
        go_round
        case rel => exact .inr (.inr (.inr (.inl ⟨rfl, rfl⟩)))
        case measure => simp [intOf]
    · have hix := env_index3 e W
      have g0 : (e 3) < 8 := HE8.out 3
      rcases bit_cases fr 8 hfr with ⟨hb, hb2⟩ | ⟨hb, hb2⟩
      · have hb : bits .and .i64 ((fr : Int) / 8) 1 = 0 := hb
        have HE1 : Hid (Fm.keyTo fr e 4 = Fm.keyTo fr e 3) := NOT.out 3 hb2
        clear hb2
        go_wp2_with fail
        go_round
        case rel => exact .inr (.inr (.inr (.inr ⟨rfl, by rw [HE1.out]⟩)))
        case measure => simp [intOf]
      · have hb : bits .and .i64 ((fr : Int) / 8) 1 = 1 := hb
        have hk1 : bits .or .i64 ((Fm.keyTo fr e 3 : Nat) : Int) (((e 3 : Nat) : Int) * 512) = ((Fm.keyTo fr e 4 : Nat) : Int) := ORK.out 3 (by omega) hb2
        clear hb2
        go_wp2_with fail
        go_round
        case rel => exact .inr (.inr (.inr (.inr ⟨rfl, rfl⟩)))
        case measure => simp [intOf]
    · have m1 := M1.out
      have m2 := M2.out
      rw [← HK.out] at m2
      have HDD : Hid (∀ G' w', Base F G' w' hb kb n S R → Tree F w' φ p → Calls Tryz.prog 128 #[ptrV hb, ptrV p, envV e] w' fun en w2 => en = .returned (.bool (Fm.holds (stOf n S R) φ e)) ∧ EverP F G' kb (stOf n S R) w' w2) := fun G' w' h1 h2 => HD.out F G' w' hb kb n S R p e h1 h2 HE.out
      cases ok
      · have hx5 := HX5.out
        have hbx := HBX.out
        rw [hx5] at hbx
        have b0 : W.cell? ⟨x5, 0, none⟩ = some (.int .i64 ((e 0 : Nat) : Int)) := by simp [World.cell?, hbx]
        have b1 : W.cell? ⟨x5, 1, none⟩ = some (.int .i64 ((e 1 : Nat) : Int)) := by simp [World.cell?, hbx]
        have b2 : W.cell? ⟨x5, 2, none⟩ = some (.int .i64 ((e 2 : Nat) : Int)) := by simp [World.cell?, hbx]
        have b3 : W.cell? ⟨x5, 3, none⟩ = some (.int .i64 ((e 3 : Nat) : Int)) := by simp [World.cell?, hbx]
        clear hbx
        have hgx := HGB.out
        rw [hx5] at hgx
        go_wp2_with fail
        refine (HDD.out G W HBW.out HTW.out).mono ?_
        rintro en w2 ⟨rfl, hev⟩
        obtain ⟨G2, hm2, hG2⟩ := hev.memo
        have hB2 := HBW.out.ever hev hm2
        have hT2 := HTW.out.ever HBW.out.memo hev
        have k3 := hB2.hold.cells.2.2.2.1
        have HV2 := Lib.hid hev
        have HB2 := Lib.hid hB2; have HT2 := Lib.hid hT2; have HM2 := Lib.hid hm2
        rcases memo_look hm2 hT2 with ⟨l1, _⟩ | ⟨r, l1, _⟩
        · obtain ⟨w3, n1, n2, n3⟩ := memo_new hm2 hT2 l1
          obtain ⟨G3, hm3, hG3⟩ := n2.memo
          have hB3 := HB2.out.ever n2 hm3
          have hT3 := HT2.out.ever hm2 n2
          have j3 := hB3.hold.cells.2.2.2.1
          obtain ⟨w4, p1, p2⟩ := memo_put hm3 hT3 n3 (e := e) HE8.out
          have HEND := Lib.hid (HEW.out.then (fun b hb => .inl hb) (HV2.out.then hG2 (n2.then hG3 p2)))
          rw [← HK.out] at p1
          unfold ptrV at l1 n1 n3
          have nl := nil_map w2
          have nm := new_map w2
          clear hm2 hG2 hB2 hT2 hev hm3 hG3 hB3 hT3 n2 p2 b0 b1 b2 b3 k3
          have k3 := HB2.out.hold.cells.2.2.2.1
          go_wp2_with fail
          go_ret
          exact ⟨rfl, HEND.out⟩
        · obtain ⟨w4, p1, p2⟩ := memo_put hm2 hT2 l1 (e := e) HE8.out
          have HEND := Lib.hid (HEW.out.then (fun b hb => .inl hb) (HV2.out.then hG2 p2))
          rw [← HK.out] at p1
          unfold ptrV at l1
          have nl := not_nil_map w2 r
          clear hm2 hG2 hB2 hT2 hev p2 b0 b1 b2 b3
          go_wp2_with fail
          go_ret
          exact ⟨rfl, HEND.out⟩
      · have HR : Hid (b = Fm.holds (stOf n S R) φ e) := M3.out rfl
        go_wp2_with fail
        go_ret
        exact ⟨ret_bool HR.out, HEW.out⟩
end Go.Proofs.YtihomcedaaiidaaGreatDoor
