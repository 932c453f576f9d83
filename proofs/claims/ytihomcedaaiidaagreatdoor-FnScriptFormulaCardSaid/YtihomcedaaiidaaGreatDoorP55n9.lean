/- Contracts of the program's functions and what they compute: part 9. Conditions: those that each theorem states. -/
import Derived.Test.YtihomcedaaiidaaGreatDoorP55n8
import Derived.Test.YtihomcedaaiidaaGreatDoorP55n6
import Derived.Deep.AppendLies
namespace Go.Proofs.YtihomcedaaiidaaGreatDoor
open Go.RowKit
set_option linter.unusedVariables false
/-- The blocks of a node's slices are apart from it and from one another. -/
structure Sep (p : Nat) (v u : Value) : Prop where
  nv : v.ownBlock ≠ some p
  nu : u.ownBlock ≠ some p
  vu : ∀ b, v.ownBlock = some b → u.ownBlock ≠ some b
theorem Nd.cells {F : Nat → Prop} {w : World} {p : Nat} {op : UInt8} {vs : List (Fin 4)} {qs : List Nat} {fr al : Nat} {v u : Value} (h : Nd F w p op vs qs fr al v u) :
    w.cell? ⟨p, 0, none⟩ = some (.int .u8 (op.toNat : Int)) ∧ w.cell? ⟨p, 1, none⟩ = some v ∧ w.cell? ⟨p, 2, none⟩ = some u ∧ w.cell? ⟨p, 3, none⟩ = some (.int .i64 (fr : Int)) ∧ w.cell? ⟨p, 4, none⟩ = some (.int .i64 (al : Int)) ∧
    w.frozen? ⟨p, 1, none⟩ = false ∧ w.frozen? ⟨p, 2, none⟩ = false ∧ w.frozen? ⟨p, 3, none⟩ = false ∧ w.frozen? ⟨p, 4, none⟩ = false := by
  have hc := h.cell
  refine ⟨?_, ?_, ?_, ?_, ?_, ?_, ?_, ?_, ?_⟩ <;> simp [World.cell?, World.frozen?, hc]
/-- A row is kept where its block is. -/
theorem RowF.keptAt {F : Nat → Prop} {w w' : World} {e : TypeId} {v : Value} {xs : List Value} (h : RowF F w e v xs) (hb : ∀ b, v.ownBlock = some b → w'.heap[b]? = w.heap[b]?) : RowF F w' e v xs :=
  ⟨own_block0 h.own hb, h.foot⟩
theorem RowF.lt {F : Nat → Prop} {w : World} {e : TypeId} {v : Value} {xs : List Value} (h : RowF F w e v xs) : ∀ b, v.ownBlock = some b → b < w.heap.size := fun b hb => (h.own.lt b hb).2
theorem RowF.mono {F F' : Nat → Prop} {w : World} {e : TypeId} {v : Value} {xs : List Value} (h : RowF F w e v xs) (hF : ∀ b, F b → F' b) : RowF F' w e v xs := ⟨h.own, fun b hb => hF b (h.foot b hb)⟩
/-- A new node. -/
theorem Nd.new (w : World) (op : UInt8) : Nd (fun b => b = w.heap.size) (w.alloc (.cells #[.int .u8 (op.toNat : Int), .slice none 0 0, .slice none 0 0, .int .i64 0, .int .i64 0] 60)) w.heap.size op [] [] 0 0 (.slice none 0 0) (.slice none 0 0) := by
  refine ⟨rfl, heap_alloc_new w _, ⟨World.ownsRow_nil _ _ _ _, fun b hb => by simp [Value.ownBlock] at hb⟩, ⟨World.ownsRow_nil _ _ _ _, fun b hb => by simp [Value.ownBlock] at hb⟩⟩
theorem Sep.nil (p : Nat) : Sep p (.slice none 0 0) (.slice none 0 0) := ⟨by simp [Value.ownBlock], by simp [Value.ownBlock], by simp [Value.ownBlock]⟩
section
variable {G : Nat → Prop} {w : World} {p : Nat} {op : UInt8} {vs : List (Fin 4)} {qs : List Nat} {fr al : Nat} {v u : Value}
theorem Nd.setAll (h : Nd G w p op vs qs fr al v u) (hs : Sep p v u) (al' : Nat) : Nd G (w.setCell ⟨p, 4, none⟩ (.int .i64 (al' : Int))) p op vs qs fr al' v u := by
  refine ⟨h.foot, ?_, h.vars.keptAt fun b hb => ?_, h.parts.keptAt fun b hb => ?_⟩
  · simp only [World.setCell, Array.getElem?_modify, h.cell]
    simp [Array.setIfInBounds]
  · exact Below.heap_setCell _ _ _ _ (fun e => hs.nv (by rw [hb, e]))
  · exact Below.heap_setCell _ _ _ _ (fun e => hs.nu (by rw [hb, e]))
theorem Nd.setFree (h : Nd G w p op vs qs fr al v u) (hs : Sep p v u) (fr' : Nat) : Nd G (w.setCell ⟨p, 3, none⟩ (.int .i64 (fr' : Int))) p op vs qs fr' al v u := by
  refine ⟨h.foot, ?_, h.vars.keptAt fun b hb => ?_, h.parts.keptAt fun b hb => ?_⟩
  · simp only [World.setCell, Array.getElem?_modify, h.cell]
    simp [Array.setIfInBounds]
  · exact Below.heap_setCell _ _ _ _ (fun e => hs.nv (by rw [hb, e]))
  · exact Below.heap_setCell _ _ _ _ (fun e => hs.nu (by rw [hb, e]))
/-- A variable is appended. -/
theorem Nd.addVar (h : Nd G w p op vs qs fr al v u) (hs : Sep p v u) {w2 w3 : World} {x : Fin 4} {gg cap : Nat} (hw : Below w.heap.size w w2)
    (ho : w3.ownsRow 0 5 1 (.slice (some ⟨gg, 0, none⟩) (vs.length + 1) cap) (vs.length + 1) (vs.map vbV ++ [vbV x])) (hg : w2.grownBy w3 v.ownBlock) (ha : v.ownBlock = some gg ∨ gg = w2.heap.size) :
    Nd (fun b => G b ∨ (w.heap.size ≤ b ∧ b = gg)) (w3.setCell ⟨p, 1, none⟩ (.slice (some ⟨gg, 0, none⟩) (vs.length + 1) cap)) p op (vs ++ [x]) qs fr al (.slice (some ⟨gg, 0, none⟩) (vs.length + 1) cap) u ∧
    Sep p (.slice (some ⟨gg, 0, none⟩) (vs.length + 1) cap) u ∧ Off G w (w3.setCell ⟨p, 1, none⟩ (.slice (some ⟨gg, 0, none⟩) (vs.length + 1) cap)) := by
  have hz := hw.size
  have hlt := h.lt
  have hvl := h.vars.lt
  have hul := h.parts.lt
  have hold : ∀ b, b < w.heap.size → v.ownBlock ≠ some b → w3.heap[b]? = w.heap[b]? := fun b hb hne =>
    (hg.block b (by omega) (fun e => hne e.symm)).trans (hw.block b hb)
  have hgp : gg ≠ p := by
    rcases ha with e | e
    · rintro rfl; exact hs.nv e
    · omega
  have hgu : u.ownBlock ≠ some gg := by
    rcases ha with e | e
    · exact hs.vu gg e
    · intro e2; have := hul gg e2; omega
  have hgG : G gg ∨ w.heap.size ≤ gg := by
    rcases ha with e | e
    · exact .inl (h.vars.foot gg e)
    · exact .inr (by omega)
  have hcell : w3.heap[p]? = some (.cells #[.int .u8 (op.toNat : Int), v, u, .int .i64 (fr : Int), .int .i64 (al : Int)] 60 (0, 0)) := by
    rw [hold p hlt hs.nv]; exact h.cell
  refine ⟨⟨.inl h.foot, ?_, ⟨?_, ?_⟩, (h.parts.keptAt fun b hb => ?_).mono fun b hb => .inl hb⟩, ⟨?_, hs.nu, ?_⟩, ?_⟩
  · simp only [World.setCell, Array.getElem?_modify, hcell]
    simp [Array.setIfInBounds]
  · have hm : (vs ++ [x]).map vbV = vs.map vbV ++ [vbV x] := by simp
    rw [hm]
    have ho2 := own_block0 (w' := w3.setCell ⟨p, 1, none⟩ (.slice (some ⟨gg, 0, none⟩) (vs.length + 1) cap)) ho (fun b hb => by
      have e : gg = b := Option.some.inj hb
      exact Below.heap_setCell _ _ _ _ (by show b ≠ p; omega))
    simpa using ho2
  · intro b hb
    have e : gg = b := Option.some.inj hb
    subst e
    rcases hgG with g | g
    · exact .inl g
    · exact .inr ⟨g, rfl⟩
  · rw [Below.heap_setCell _ _ _ _ (fun e => hs.nu (by rw [hb, e]))]
    exact hold b (hul b hb) (fun e => hs.vu b e hb)
  · intro e; have e : gg = p := Option.some.inj e; exact hgp e
  · intro b hb
    have e : gg = b := Option.some.inj hb
    subst e
    exact hgu
  · refine ⟨hg.os.trans hw.os, hg.tape.trans hw.tape, hg.output.trans hw.output, ?_, fun b hb hn => ?_⟩
    · have := hg.size
      simp [World.setCell]; omega
    · rw [Below.heap_setCell _ _ _ _ (fun e => hn (by rw [e]; exact h.foot))]
      exact hold b hb (fun e => hn (h.vars.foot b e))
/-- A part is appended. -/
theorem Nd.addPart (h : Nd G w p op vs qs fr al v u) (hs : Sep p v u) {w2 w3 : World} {x : Nat} {gg cap : Nat} (hw : Below w.heap.size w w2)
    (ho : w3.ownsRow 0 51 1 (.slice (some ⟨gg, 0, none⟩) (qs.length + 1) cap) (qs.length + 1) (qs.map ptrV ++ [ptrV x])) (hg : w2.grownBy w3 u.ownBlock) (ha : u.ownBlock = some gg ∨ gg = w2.heap.size) :
    Nd (fun b => G b ∨ (w.heap.size ≤ b ∧ b = gg)) (w3.setCell ⟨p, 2, none⟩ (.slice (some ⟨gg, 0, none⟩) (qs.length + 1) cap)) p op vs (qs ++ [x]) fr al v (.slice (some ⟨gg, 0, none⟩) (qs.length + 1) cap) ∧
    Sep p v (.slice (some ⟨gg, 0, none⟩) (qs.length + 1) cap) ∧ Off G w (w3.setCell ⟨p, 2, none⟩ (.slice (some ⟨gg, 0, none⟩) (qs.length + 1) cap)) := by
  have hz := hw.size
  have hlt := h.lt
  have hvl := h.vars.lt
  have hul := h.parts.lt
  have hold : ∀ b, b < w.heap.size → u.ownBlock ≠ some b → w3.heap[b]? = w.heap[b]? := fun b hb hne =>
    (hg.block b (by omega) (fun e => hne e.symm)).trans (hw.block b hb)
  have hgp : gg ≠ p := by
    rcases ha with e | e
    · rintro rfl; exact hs.nu e
    · omega
  have hgv : v.ownBlock ≠ some gg := by
    rcases ha with e | e
    · intro e2; exact hs.vu gg e2 e
    · intro e2; have := hvl gg e2; omega
  have hgG : G gg ∨ w.heap.size ≤ gg := by
    rcases ha with e | e
    · exact .inl (h.parts.foot gg e)
    · exact .inr (by omega)
  have hcell : w3.heap[p]? = some (.cells #[.int .u8 (op.toNat : Int), v, u, .int .i64 (fr : Int), .int .i64 (al : Int)] 60 (0, 0)) := by
    rw [hold p hlt hs.nu]; exact h.cell
  refine ⟨⟨.inl h.foot, ?_, (h.vars.keptAt fun b hb => ?_).mono fun b hb => .inl hb, ⟨?_, ?_⟩⟩, ⟨hs.nv, ?_, ?_⟩, ?_⟩
  · simp only [World.setCell, Array.getElem?_modify, hcell]
    simp [Array.setIfInBounds]
  · rw [Below.heap_setCell _ _ _ _ (fun e => hs.nv (by rw [hb, e]))]
    exact hold b (hvl b hb) (fun e => hs.vu b hb e)
  · have hm : (qs ++ [x]).map ptrV = qs.map ptrV ++ [ptrV x] := by simp
    rw [hm]
    have ho2 := own_block0 (w' := w3.setCell ⟨p, 2, none⟩ (.slice (some ⟨gg, 0, none⟩) (qs.length + 1) cap)) ho (fun b hb => by
      have e : gg = b := Option.some.inj hb
      exact Below.heap_setCell _ _ _ _ (by show b ≠ p; omega))
    simpa using ho2
  · intro b hb
    have e : gg = b := Option.some.inj hb
    subst e
    rcases hgG with g | g
    · exact .inl g
    · exact .inr ⟨g, rfl⟩
  · intro e; have e : gg = p := Option.some.inj e; exact hgp e
  · intro b hb e2
    have e : gg = b := Option.some.inj e2
    subst e
    exact hgv hb
  · refine ⟨hg.os.trans hw.os, hg.tape.trans hw.tape, hg.output.trans hw.output, ?_, fun b hb hn => ?_⟩
    · have := hg.size
      simp [World.setCell]; omega
    · rw [Below.heap_setCell _ _ _ _ (fun e => hn (by rw [e]; exact h.foot))]
      exact hold b hb (fun e => hn (h.parts.foot b e))
end
/-- A tree's blocks lie in memory. -/
theorem Tree.tight {F : Nat → Prop} {w : World} : ∀ {φ : Fm.T} {p : Nat}, Tree F w φ p → Tree (fun b => F b ∧ b < w.heap.size) w φ p := by
  have nd : ∀ {p : Nat} {op : UInt8} {vs : List (Fin 4)} {qs : List Nat} {fr al : Nat} {v u : Value}, Nd F w p op vs qs fr al v u → Nd (fun b => F b ∧ b < w.heap.size) w p op vs qs fr al v u := fun h =>
    ⟨⟨h.foot, h.lt⟩, h.cell, ⟨h.vars.own, fun b hb => ⟨h.vars.foot b hb, h.vars.lt b hb⟩⟩, ⟨h.parts.own, fun b hb => ⟨h.parts.foot b hb, h.parts.lt b hb⟩⟩⟩
  intro φ
  induction φ with
  | lit b => rintro p ⟨v, u, h⟩; exact ⟨v, u, nd h⟩
  | set x => rintro p ⟨v, u, h⟩; exact ⟨v, u, nd h⟩
  | rel e x y => rintro p ⟨v, u, h⟩; exact ⟨v, u, nd h⟩
  | neg f ih => rintro p ⟨v, u, q, h, h1⟩; exact ⟨v, u, q, nd h, ih h1⟩
  | bin o f g ih1 ih2 => rintro p ⟨v, u, q, r, h, h1, h2⟩; exact ⟨v, u, q, r, nd h, ih1 h1, ih2 h2⟩
  | qu k x f ih => rintro p ⟨v, u, q, h, h1⟩; exact ⟨v, u, q, nd h, ih h1⟩
theorem Trees.mono {F F' : Nat → Prop} {w : World} (hF : ∀ b, F b → F' b) {fs : List Fm.T} {qs : List Nat} (h : Trees F w fs qs) : Trees F' w fs qs := h.kept (fun _ _ _ => rfl) hF
theorem Trees.off {F G : Nat → Prop} {w w' : World} {fs : List Fm.T} {qs : List Nat} (h : Trees F w fs qs) (hw : Off G w w') (hG : ∀ b, F b → ¬ G b) : Trees F w' fs qs := h.kept (fun b hf hl => hw.block b hl (hG b hf)) (fun _ h => h)
end Go.Proofs.YtihomcedaaiidaaGreatDoor

namespace Go.Proofs.YtihomcedaaiidaaGreatDoor
open Go.RowKit
set_option linter.unusedVariables false
/-- The first place of a byte in a text, -1 if there is none. -/
def posB (c : UInt8) : List UInt8 → Nat → Int
  | [], _ => -1
  | x :: l, k => if x = c then (k : Int) else posB c l (k + 1)
theorem posB_drop (c : UInt8) (l : List UInt8) (k : Nat) (h : k < l.length) : posB c (l.drop k) k = if l[k] = c then (k : Int) else posB c (l.drop (k + 1)) (k + 1) := by
  rw [List.drop_eq_getElem_cons h]; rfl
theorem l15FindP_any (s : ByteArray) (c : UInt8) (w : World) (hs : s.size ≤ 9223372036854775807) :
    Calls Tryz.prog 129 #[.string s, .int .u8 (c.toNat : Int)] w fun e w' => e = .returned (.int .i64 (posB c s.data.toList 0)) ∧ w' = w := by
  obtain ⟨F, hF⟩ : ∃ F, posB c s.data.toList 0 = F := ⟨_, rfl⟩
  have HF := Lib.hid hF
  rw [hF]; clear hF
  go_enter Tryz.func129, Tryz.ntmps129
  go_wp2_with fail
  go_loop [5] (fun i => ∃ k : Nat, k ≤ s.size ∧ i = .int .i64 k ∧ Hid (posB c (s.data.toList.drop k) k = F)) (fun i => s.size - (intOf i).toNat)
  case atStart => exact ⟨0, by omega, rfl, HF.out⟩
  case round =>
    obtain ⟨k, hk, rfl, HK⟩ := hrel
    by_cases hlt : k < s.size
    · have HD := Lib.hid (posB_drop c s.data.toList k (by simpa using hlt))
      obtain ⟨x, hx⟩ : ∃ x, s[k] = x := ⟨_, rfl⟩
      have hx' : s.data.toList[k]'(by simpa using hlt) = x := by rw [← hx]; rfl
      have HX : Hid (F = if x = c then (k : Int) else posB c (s.data.toList.drop (k + 1)) (k + 1)) := by
        show F = _
        rw [← HK.out, HD.out, hx']
      clear hx' HD
      by_cases hq : x = c
      · have HE : Hid ((k : Int) = F) := by show _ = _; rw [HX.out, if_pos hq]
        have e1 : ((x.toNat : Int) == (c.toNat : Int)) = true := by rw [hq]; simp
        clear HX hq
        go_wp2_with fail
        go_ret
        exact ⟨congrArg (fun s => Ending.returned (.int .i64 s)) HE.out, rfl⟩
      · have HE : Hid (posB c (s.data.toList.drop (k + 1)) (k + 1) = F) := by show _ = _; rw [HX.out, if_neg hq]
        have hq' : x.toNat ≠ c.toNat := fun h => hq (UInt8.toNat_inj.1 h)
        have e1 : ((x.toNat : Int) == (c.toNat : Int)) = false := by simp; omega
        clear HX hq hq'
        go_wp2_with fail
        go_round
        case rel => exact ⟨k + 1, by omega, by go_num, HE.out⟩
        case measure => simp [intOf]; omega
    · have HE : Hid (-1 = F) := by
        have h := HK.out
        rw [List.drop_eq_nil_of_le (by simp; omega)] at h
        exact h
      go_wp2_with fail
      go_ret
      exact ⟨congrArg (fun s => Ending.returned (.int .i64 s)) HE.out, rfl⟩
end Go.Proofs.YtihomcedaaiidaaGreatDoor
