/- Contracts of the program's functions and what they compute: part 33. Conditions: those that each theorem states. -/
import Derived.Test.YtnhlhjehocngcaaGreatDoorP50n32
import Derived.Test.YtnhlhjehocngcaaGreatDoorP50n1
import Derived.Test.YtnhlhjehocngcaaGreatDoorP50n9
import Derived.Test.YtnhlhjehocngcaaGreatDoorP50n31
import Derived.Deep.AppendLies
import Derived.Lib.Strings
import Derived.Lib.Slices
import Derived.Lib.Walk
import Derived.Lib.Bytealg
namespace Go.Proofs.YtnhlhjehocngcaaGreatDoor
open Go.RowKit
set_option linter.unusedVariables false
/-- The blocks of a node's slices are apart from it and from one another. -/
structure Sep (p : Nat) (v u : Value) : Prop where
  nv : v.ownBlock ≠ some p
  nu : u.ownBlock ≠ some p
  vu : ∀ b, v.ownBlock = some b → u.ownBlock ≠ some b
theorem Nd.cells {F : Nat → Prop} {w : World} {p : Nat} {op : UInt8} {vs : List (Fin 4)} {qs : List Nat} {fr al : Nat} {v u : Value} (h : Nd F w p op vs qs fr al v u) :
    w.cell? ⟨p, 0, none⟩ = some (.int .u8 (op.toNat : Int)) ∧ w.cell? ⟨p, 1, none⟩ = some v ∧ w.cell? ⟨p, 2, none⟩ = some u ∧ w.cell? ⟨p, 3, none⟩ = some (.int .i64 (fr : Int)) ∧ w.cell? ⟨p, 4, none⟩ = some (.int .i64 (al : Int)) ∧
    w.frozen? ⟨p, 1, none⟩ = false ∧ w.frozen? ⟨p, 2, none⟩ = false ∧ w.frozen? ⟨p, 3, none⟩ = false ∧ w.frozen? ⟨p, 4, none⟩ = false := by
  have hc := h.cell
  refine ⟨?_, ?_, ?_, ?_, ?_, ?_, ?_, ?_, ?_⟩ <;> simp [World.cell?, World.frozen?, hc]
/-- A row is kept where its block is. -/
theorem RowF.keptAt {F : Nat → Prop} {w w' : World} {e : TypeId} {v : Value} {xs : List Value} (h : RowF F w e v xs) (hb : ∀ b, v.ownBlock = some b → w'.heap[b]? = w.heap[b]?) : RowF F w' e v xs :=
  ⟨own_block0 h.own hb, h.foot⟩
theorem RowF.lt {F : Nat → Prop} {w : World} {e : TypeId} {v : Value} {xs : List Value} (h : RowF F w e v xs) : ∀ b, v.ownBlock = some b → b < w.heap.size := fun b hb => (h.own.lt b hb).2
theorem RowF.mono {F F' : Nat → Prop} {w : World} {e : TypeId} {v : Value} {xs : List Value} (h : RowF F w e v xs) (hF : ∀ b, F b → F' b) : RowF F' w e v xs := ⟨h.own, fun b hb => hF b (h.foot b hb)⟩
/-- A new node. -/
theorem Nd.new (w : World) (op : UInt8) : Nd (fun b => b = w.heap.size) (w.alloc (.cells #[.int .u8 (op.toNat : Int), .slice none 0 0, .slice none 0 0, .int .i64 0, .int .i64 0] 76)) w.heap.size op [] [] 0 0 (.slice none 0 0) (.slice none 0 0) := by
  refine ⟨rfl, heap_alloc_new w _, ⟨World.ownsRow_nil _ _ _ _, fun b hb => by simp [Value.ownBlock] at hb⟩, ⟨World.ownsRow_nil _ _ _ _, fun b hb => by simp [Value.ownBlock] at hb⟩⟩
theorem Sep.nil (p : Nat) : Sep p (.slice none 0 0) (.slice none 0 0) := ⟨by simp [Value.ownBlock], by simp [Value.ownBlock], by simp [Value.ownBlock]⟩
section
variable {G : Nat → Prop} {w : World} {p : Nat} {op : UInt8} {vs : List (Fin 4)} {qs : List Nat} {fr al : Nat} {v u : Value}
theorem Nd.setAll (h : Nd G w p op vs qs fr al v u) (hs : Sep p v u) (al' : Nat) : Nd G (w.setCell ⟨p, 4, none⟩ (.int .i64 (al' : Int))) p op vs qs fr al' v u := by
  refine ⟨h.foot, ?_, h.vars.keptAt fun b hb => ?_, h.parts.keptAt fun b hb => ?_⟩
  · simp only [World.setCell, Array.getElem?_modify, h.cell]
    simp [Array.setIfInBounds]
  · exact Below.heap_setCell _ _ _ _ (fun e => hs.nv (by rw [hb, e]))
  · exact Below.heap_setCell _ _ _ _ (fun e => hs.nu (by rw [hb, e]))
theorem Nd.setFree (h : Nd G w p op vs qs fr al v u) (hs : Sep p v u) (fr' : Nat) : Nd G (w.setCell ⟨p, 3, none⟩ (.int .i64 (fr' : Int))) p op vs qs fr' al v u := by
  refine ⟨h.foot, ?_, h.vars.keptAt fun b hb => ?_, h.parts.keptAt fun b hb => ?_⟩
  · simp only [World.setCell, Array.getElem?_modify, h.cell]
    simp [Array.setIfInBounds]
  · exact Below.heap_setCell _ _ _ _ (fun e => hs.nv (by rw [hb, e]))
  · exact Below.heap_setCell _ _ _ _ (fun e => hs.nu (by rw [hb, e]))
/-- A variable is appended. -/
theorem Nd.addVar (h : Nd G w p op vs qs fr al v u) (hs : Sep p v u) {w2 w3 : World} {x : Fin 4} {gg cap : Nat} (hw : Below w.heap.size w w2)
    (ho : w3.ownsRow 0 5 1 (.slice (some ⟨gg, 0, none⟩) (vs.length + 1) cap) (vs.length + 1) (vs.map vbV ++ [vbV x])) (hg : w2.grownBy w3 v.ownBlock) (ha : v.ownBlock = some gg ∨ gg = w2.heap.size) :
    Nd (fun b => G b ∨ (w.heap.size ≤ b ∧ b = gg)) (w3.setCell ⟨p, 1, none⟩ (.slice (some ⟨gg, 0, none⟩) (vs.length + 1) cap)) p op (vs ++ [x]) qs fr al (.slice (some ⟨gg, 0, none⟩) (vs.length + 1) cap) u ∧
    Sep p (.slice (some ⟨gg, 0, none⟩) (vs.length + 1) cap) u ∧ Off G w (w3.setCell ⟨p, 1, none⟩ (.slice (some ⟨gg, 0, none⟩) (vs.length + 1) cap)) := by
  have hz := hw.size
  have hlt := h.lt
  have hvl := h.vars.lt
  have hul := h.parts.lt
  have hold : ∀ b, b < w.heap.size → v.ownBlock ≠ some b → w3.heap[b]? = w.heap[b]? := fun b hb hne =>
    (hg.block b (by omega) (fun e => hne e.symm)).trans (hw.block b hb)
  have hgp : gg ≠ p := by
    rcases ha with e | e
    · rintro rfl; exact hs.nv e
    · omega
  have hgu : u.ownBlock ≠ some gg := by
    rcases ha with e | e
    · exact hs.vu gg e
    · intro e2; have := hul gg e2; omega
  have hgG : G gg ∨ w.heap.size ≤ gg := by
    rcases ha with e | e
    · exact .inl (h.vars.foot gg e)
    · exact .inr (by omega)
  have hcell : w3.heap[p]? = some (.cells #[.int .u8 (op.toNat : Int), v, u, .int .i64 (fr : Int), .int .i64 (al : Int)] 76 (0, 0)) := by
    rw [hold p hlt hs.nv]; exact h.cell
  refine ⟨⟨.inl h.foot, ?_, ⟨?_, ?_⟩, (h.parts.keptAt fun b hb => ?_).mono fun b hb => .inl hb⟩, ⟨?_, hs.nu, ?_⟩, ?_⟩
  · simp only [World.setCell, Array.getElem?_modify, hcell]
    simp [Array.setIfInBounds]
  · have hm : (vs ++ [x]).map vbV = vs.map vbV ++ [vbV x] := by simp
    rw [hm]
    have ho2 := own_block0 (w' := w3.setCell ⟨p, 1, none⟩ (.slice (some ⟨gg, 0, none⟩) (vs.length + 1) cap)) ho (fun b hb => by
      have e : gg = b := Option.some.inj hb
      exact Below.heap_setCell _ _ _ _ (by show b ≠ p; omega))
    simpa using ho2
  · intro b hb
    have e : gg = b := Option.some.inj hb
    subst e
    rcases hgG with g | g
    · exact .inl g
    · exact .inr ⟨g, rfl⟩
  · rw [Below.heap_setCell _ _ _ _ (fun e => hs.nu (by rw [hb, e]))]
    exact hold b (hul b hb) (fun e => hs.vu b e hb)
  · intro e; have e : gg = p := Option.some.inj e; exact hgp e
  · intro b hb
    have e : gg = b := Option.some.inj hb
    subst e
    exact hgu
  · refine ⟨hg.os.trans hw.os, hg.tape.trans hw.tape, hg.output.trans hw.output, ?_, fun b hb hn => ?_⟩
    · have := hg.size
      simp [World.setCell]; omega
    · rw [Below.heap_setCell _ _ _ _ (fun e => hn (by rw [e]; exact h.foot))]
      exact hold b hb (fun e => hn (h.vars.foot b e))
/-- A part is appended. -/
theorem Nd.addPart (h : Nd G w p op vs qs fr al v u) (hs : Sep p v u) {w2 w3 : World} {x : Nat} {gg cap : Nat} (hw : Below w.heap.size w w2)
    (ho : w3.ownsRow 0 71 1 (.slice (some ⟨gg, 0, none⟩) (qs.length + 1) cap) (qs.length + 1) (qs.map ptrV ++ [ptrV x])) (hg : w2.grownBy w3 u.ownBlock) (ha : u.ownBlock = some gg ∨ gg = w2.heap.size) :
    Nd (fun b => G b ∨ (w.heap.size ≤ b ∧ b = gg)) (w3.setCell ⟨p, 2, none⟩ (.slice (some ⟨gg, 0, none⟩) (qs.length + 1) cap)) p op vs (qs ++ [x]) fr al v (.slice (some ⟨gg, 0, none⟩) (qs.length + 1) cap) ∧
    Sep p v (.slice (some ⟨gg, 0, none⟩) (qs.length + 1) cap) ∧ Off G w (w3.setCell ⟨p, 2, none⟩ (.slice (some ⟨gg, 0, none⟩) (qs.length + 1) cap)) := by
  have hz := hw.size
  have hlt := h.lt
  have hvl := h.vars.lt
  have hul := h.parts.lt
  have hold : ∀ b, b < w.heap.size → u.ownBlock ≠ some b → w3.heap[b]? = w.heap[b]? := fun b hb hne =>
    (hg.block b (by omega) (fun e => hne e.symm)).trans (hw.block b hb)
  have hgp : gg ≠ p := by
    rcases ha with e | e
    · rintro rfl; exact hs.nu e
    · omega
  have hgv : v.ownBlock ≠ some gg := by
    rcases ha with e | e
    · intro e2; exact hs.vu gg e2 e
    · intro e2; have := hvl gg e2; omega
  have hgG : G gg ∨ w.heap.size ≤ gg := by
    rcases ha with e | e
    · exact .inl (h.parts.foot gg e)
    · exact .inr (by omega)
  have hcell : w3.heap[p]? = some (.cells #[.int .u8 (op.toNat : Int), v, u, .int .i64 (fr : Int), .int .i64 (al : Int)] 76 (0, 0)) := by
    rw [hold p hlt hs.nu]; exact h.cell
  refine ⟨⟨.inl h.foot, ?_, (h.vars.keptAt fun b hb => ?_).mono fun b hb => .inl hb, ⟨?_, ?_⟩⟩, ⟨hs.nv, ?_, ?_⟩, ?_⟩
  · simp only [World.setCell, Array.getElem?_modify, hcell]
    simp [Array.setIfInBounds]
  · rw [Below.heap_setCell _ _ _ _ (fun e => hs.nv (by rw [hb, e]))]
    exact hold b (hvl b hb) (fun e => hs.vu b hb e)
  · have hm : (qs ++ [x]).map ptrV = qs.map ptrV ++ [ptrV x] := by simp
    rw [hm]
    have ho2 := own_block0 (w' := w3.setCell ⟨p, 2, none⟩ (.slice (some ⟨gg, 0, none⟩) (qs.length + 1) cap)) ho (fun b hb => by
      have e : gg = b := Option.some.inj hb
      exact Below.heap_setCell _ _ _ _ (by show b ≠ p; omega))
    simpa using ho2
  · intro b hb
    have e : gg = b := Option.some.inj hb
    subst e
    rcases hgG with g | g
    · exact .inl g
    · exact .inr ⟨g, rfl⟩
  · intro e; have e : gg = p := Option.some.inj e; exact hgp e
  · intro b hb e2
    have e : gg = b := Option.some.inj e2
    subst e
    exact hgv hb
  · refine ⟨hg.os.trans hw.os, hg.tape.trans hw.tape, hg.output.trans hw.output, ?_, fun b hb hn => ?_⟩
    · have := hg.size
      simp [World.setCell]; omega
    · rw [Below.heap_setCell _ _ _ _ (fun e => hn (by rw [e]; exact h.foot))]
      exact hold b hb (fun e => hn (h.parts.foot b e))
end
/-- A tree's blocks lie in memory. -/
theorem Tree.tight {F : Nat → Prop} {w : World} : ∀ {φ : Fm.T} {p : Nat}, Tree F w φ p → Tree (fun b => F b ∧ b < w.heap.size) w φ p := by
  have nd : ∀ {p : Nat} {op : UInt8} {vs : List (Fin 4)} {qs : List Nat} {fr al : Nat} {v u : Value}, Nd F w p op vs qs fr al v u → Nd (fun b => F b ∧ b < w.heap.size) w p op vs qs fr al v u := fun h =>
    ⟨⟨h.foot, h.lt⟩, h.cell, ⟨h.vars.own, fun b hb => ⟨h.vars.foot b hb, h.vars.lt b hb⟩⟩, ⟨h.parts.own, fun b hb => ⟨h.parts.foot b hb, h.parts.lt b hb⟩⟩⟩
  intro φ
  induction φ with
  | lit b => rintro p ⟨v, u, h⟩; exact ⟨v, u, nd h⟩
  | set x => rintro p ⟨v, u, h⟩; exact ⟨v, u, nd h⟩
  | rel e x y => rintro p ⟨v, u, h⟩; exact ⟨v, u, nd h⟩
  | neg f ih => rintro p ⟨v, u, q, h, h1⟩; exact ⟨v, u, q, nd h, ih h1⟩
  | bin o f g ih1 ih2 => rintro p ⟨v, u, q, r, h, h1, h2⟩; exact ⟨v, u, q, r, nd h, ih1 h1, ih2 h2⟩
  | qu k x f ih => rintro p ⟨v, u, q, h, h1⟩; exact ⟨v, u, q, nd h, ih h1⟩
theorem Trees.mono {F F' : Nat → Prop} {w : World} (hF : ∀ b, F b → F' b) {fs : List Fm.T} {qs : List Nat} (h : Trees F w fs qs) : Trees F' w fs qs := h.kept (fun _ _ _ => rfl) hF
theorem Trees.off {F G : Nat → Prop} {w w' : World} {fs : List Fm.T} {qs : List Nat} (h : Trees F w fs qs) (hw : Off G w w') (hG : ∀ b, F b → ¬ G b) : Trees F w' fs qs := h.kept (fun b hf hl => hw.block b hl (hG b hf)) (fun _ h => h)
end Go.Proofs.YtnhlhjehocngcaaGreatDoor

namespace Go.Proofs.YtnhlhjehocngcaaGreatDoor
open Go.RowKit
set_option linter.unusedVariables false
set_option maxHeartbeats 1000000 in
set_option maxRecDepth 100000 in
theorem liteIndexByte_any (s : ByteArray) (c : Int) (w : World) :
    Calls Tryz.prog 165 #[.string s, .int .u8 c] w fun e w' => e = .returned (.int .i64 (Lib.indexByte s.data.toList c.toNat.toUInt8)) ∧ w' = w := by
  go_enter Tryz.func165, Tryz.ntmps165
  go_wp2
  rw [run_callFunc_extern Tryz.func195 (by kernel_rfl) (by kernel_rfl) (by kernel_rfl) (e := Extern.BytealgIndexByte.indexByte) (by kernel_rfl), Lib.run_indexByteString]
  simp only [Result.andThen]
  rw [Oper.upon_value]
  go_wp2
  go_ret
  exact ⟨rfl, rfl⟩
set_option maxHeartbeats 1000000 in
theorem indexByte_any (s : ByteArray) (c : Int) (w : World) :
    Calls Tryz.prog 139 #[.string s, .int .u8 c] w fun e w' => e = .returned (.int .i64 (Lib.indexByte s.data.toList c.toNat.toUInt8)) ∧ w' = w := by
  go_enter Tryz.func139, Tryz.ntmps139
  go_wp2_with (go_at_call 165; refine (liteIndexByte_any _ _ _).mono ?_; rintro e w' ⟨rfl, rfl⟩)
  go_ret
  exact ⟨rfl, rfl⟩
set_option maxHeartbeats 2000000 in
set_option maxRecDepth 100000 in
theorem liteIndex_one (s : ByteArray) (c : UInt8) (w : World) :
    Calls Tryz.prog 193 #[.string s, .string ⟨#[c]⟩] w fun e w' => e = .returned (.int .i64 (Lib.indexByte s.data.toList c)) ∧ w' = w := by
  go_enter Tryz.func193, Tryz.ntmps193
  go_wp2_with (go_at_call 165; refine (liteIndexByte_any _ _ _).mono ?_; rintro e w' ⟨rfl, rfl⟩)
  · have h : ([c] == s.toList) = true := by assumption
    go_ret
    refine ⟨?_, rfl⟩
    have e : s.data.toList = [c] := by rw [← Lib.toList_data]; exact (beq_iff_eq.1 h).symm
    rw [e]
    simp [Lib.indexByte]
  · go_ret
    exact ⟨rfl, rfl⟩
set_option maxHeartbeats 1000000 in
theorem index_one (s : ByteArray) (c : UInt8) (w : World) :
    Calls Tryz.prog 162 #[.string s, .string ⟨#[c]⟩] w fun e w' => e = .returned (.int .i64 (Lib.indexByte s.data.toList c)) ∧ w' = w := by
  go_enter Tryz.func162, Tryz.ntmps162
  go_wp2_with (go_at_call 193; refine (liteIndex_one _ _ _).mono ?_; rintro e w' ⟨rfl, rfl⟩)
  go_ret
  exact ⟨rfl, rfl⟩
set_option maxHeartbeats 1000000 in
theorem contains_one (s : ByteArray) (c : UInt8) (w : World) :
    Calls Tryz.prog 135 #[.string s, .string ⟨#[c]⟩] w fun e w' => e = .returned (.bool (decide (0 ≤ Lib.indexByte s.data.toList c))) ∧ w' = w := by
  go_enter Tryz.func135, Tryz.ntmps135
  go_wp2_with (go_at_call 162; refine (index_one _ _ _).mono ?_; rintro e w' ⟨rfl, rfl⟩)
  go_ret
  exact ⟨rfl, rfl⟩
end Go.Proofs.YtnhlhjehocngcaaGreatDoor

namespace Go.Proofs.YtnhlhjehocngcaaGreatDoor
open Go.RowKit
set_option linter.unusedVariables false
theorem char_cases (x : UInt8) : x = 116 ∨ x = 102 ∨ x = 80 ∨ (∃ e : Bool, x = if e then 69 else 61) ∨ x = 33 ∨ (∃ o : Bool, x = if o then 124 else 38) ∨ (∃ q : Fm.Q, x = q.byte) ∨
    (x ≠ 116 ∧ x ≠ 102 ∧ x ≠ 80 ∧ x ≠ 61 ∧ x ≠ 69 ∧ x ≠ 33 ∧ x ≠ 38 ∧ x ≠ 124 ∧ x ≠ 65 ∧ x ≠ 83 ∧ x ≠ 50 ∧ x ≠ 51 ∧ x ≠ 52) := by
  by_cases h1 : x = 116; exact .inl h1
  refine .inr ?_
  by_cases h2 : x = 102; exact .inl h2
  refine .inr ?_
  by_cases h3 : x = 80; exact .inl h3
  refine .inr ?_
  by_cases h4 : x = 61; exact .inl ⟨false, h4⟩
  by_cases h5 : x = 69; exact .inl ⟨true, h5⟩
  refine .inr ?_
  by_cases h6 : x = 33; exact .inl h6
  refine .inr ?_
  by_cases h7 : x = 38; exact .inl ⟨false, h7⟩
  by_cases h8 : x = 124; exact .inl ⟨true, h8⟩
  refine .inr ?_
  by_cases h9 : x = 65; exact .inl ⟨.all, h9⟩
  by_cases h10 : x = 83; exact .inl ⟨.some, h10⟩
  by_cases h11 : x = 50; exact .inl ⟨.two, h11⟩
  by_cases h12 : x = 51; exact .inl ⟨.three, h12⟩
  by_cases h13 : x = 52; exact .inl ⟨.four, h13⟩
  exact .inr ⟨h1, h2, h3, h4, h5, h6, h7, h8, h9, h10, h11, h12, h13⟩
theorem byte_no {x : UInt8} {n : Nat} (hn : n < 256) (h : x ≠ UInt8.ofNat n) : ((x.toNat : Int) == (n : Int)) = false := by
  rw [← Bool.not_eq_true, beq_iff_eq]
  intro e
  have e2 : x.toNat = n := by omega
  exact h (UInt8.toNat_inj.1 (by rw [e2, UInt8.toNat_ofNat']; omega))
end Go.Proofs.YtnhlhjehocngcaaGreatDoor
namespace Go.Proofs.YtnhlhjehocngcaaGreatDoor
open Go.RowKit
set_option linter.unusedVariables false
theorem or_i64 (a b : Nat) (ha : a < 16) (hb : b < 16) : bits .or .i64 (a : Int) (b : Int) = ((a ||| b : Nat) : Int) := by
  have h : ∀ a b : Fin 16, bits .or .i64 (a.val : Int) (b.val : Int) = ((a.val ||| b.val : Nat) : Int) := by decide +kernel
  exact h ⟨a, ha⟩ ⟨b, hb⟩
theorem andNot_i64 (a b : Nat) (ha : a < 16) (hb : b < 16) : bits .andNot .i64 (a : Int) (b : Int) = ((a &&& (15 ^^^ b) : Nat) : Int) := by
  have h : ∀ a b : Fin 16, bits .andNot .i64 (a.val : Int) (b.val : Int) = ((a.val &&& (15 ^^^ b.val) : Nat) : Int) := by decide +kernel
  exact h ⟨a, ha⟩ ⟨b, hb⟩
theorem shl_i64 (v : Fin 4) : IntKind.i64.wrap (2 ^ v.val) = ((1 <<< v.val : Nat) : Int) := by revert v; decide +kernel
end Go.Proofs.YtnhlhjehocngcaaGreatDoor
namespace Go.Proofs.YtnhlhjehocngcaaGreatDoor
open Go.RowKit
set_option linter.unusedVariables false
/-- Whether a text is a formula. -/
def readB (f : ByteArray) : Option Fm.T := Fm.read f.data.toList
end Go.Proofs.YtnhlhjehocngcaaGreatDoor
