/- What the program's parsePart needs: the letters that are variables and quantifiers; a node with its parts. No condition. -/
import Derived.Test.YtadgiknnejjplaaDoorNode
import Derived.Test.YtadgiknnejjplaaDoorIdx
import Derived.Test.YtadgiknnejjplaaDoorFmFree
namespace Go.Proofs.YtadgiknnejjplaaDoor
open Go.RowKit
set_option linter.unusedVariables false

theorem index_cons (b : UInt8) (l : List UInt8) (c : UInt8) : decide (0 ≤ Lib.indexByte (b :: l) c) = (decide (b = c) || decide (0 ≤ Lib.indexByte l c)) := by
  have h : ∀ l : List UInt8, -1 ≤ Lib.indexByte l c := by
    intro l
    induction l with
    | nil => simp [Lib.indexByte]
    | cons b l ih => simp only [Lib.indexByte]; split; omega; split <;> omega
  have hl := h l
  rw [Bool.eq_iff_iff, Bool.or_eq_true, decide_eq_true_iff, decide_eq_true_iff, decide_eq_true_iff]
  simp only [Lib.indexByte]
  by_cases e : b = c
  · simp [e]
  · have e2 : (b == c) = false := by simpa using e
    rw [if_neg (by rw [e2]; simp)]
    by_cases e3 : Lib.indexByte l c = -1
    · rw [if_pos (by simpa using e3)]; simp [e]; omega
    · rw [if_neg (by simpa using e3)]; simp [e]; omega
theorem index_quant (c : UInt8) : decide (0 ≤ Lib.indexByte [65, 83, 50, 51, 52] c) = Fm.isQu c := by
  simp only [index_cons]
  unfold Fm.isQu Fm.quOf
  by_cases h1 : c = 65
  · subst h1; decide
  by_cases h2 : c = 83
  · subst h2; decide
  by_cases h3 : c = 50
  · subst h3; decide
  by_cases h4 : c = 51
  · subst h4; decide
  by_cases h5 : c = 52
  · subst h5; decide
  simp [Ne.symm h1, Ne.symm h2, Ne.symm h3, Ne.symm h4, Ne.symm h5, h1, h2, h3, h4, h5, Lib.indexByte]
theorem index_var (c : UInt8) (s : List UInt8) : decide (0 ≤ Lib.indexByte [97, 98, 99, 100] c) = (Fm.pvar (c :: s)).isSome := by
  simp only [index_cons]
  simp only [Fm.pvar]
  by_cases h1 : c = 97
  · subst h1; rfl
  by_cases h2 : c = 98
  · subst h2; rfl
  by_cases h3 : c = 99
  · subst h3; rfl
  by_cases h4 : c = 100
  · subst h4; rfl
  simp [Ne.symm h1, Ne.symm h2, Ne.symm h3, Ne.symm h4, h1, h2, h3, h4, Lib.indexByte]

/-- A node that is being made, with its parts, in memory that is new since w. -/
def NodeInv (w wr : World) (c : UInt8) (vs : List (Fin 4)) (ps : List Fm.T) (fr al : Nat) : Prop :=
  ∃ (G F : Nat → Prop) (qs : List Nat) (v u : Value), Nd G wr w.heap.size c vs qs fr al v u ∧ Sep w.heap.size v u ∧ (∀ b, G b → w.heap.size ≤ b ∧ b < wr.heap.size) ∧ Below w.heap.size w wr ∧ Trees F wr ps qs ∧ ∀ b, F b → ¬ G b ∧ w.heap.size ≤ b ∧ b < wr.heap.size
theorem NodeInv.new (w : World) (c : UInt8) : NodeInv w (w.alloc (.cells #[.int .u8 (c.toNat : Int), .slice none 0 0, .slice none 0 0, .int .i64 0, .int .i64 0] 108)) c [] [] 0 0 :=
  ⟨_, fun _ => False, [], _, _, Nd.new w c, Sep.nil _, fun b hb => by simp; omega, (Below.refl _ _).alloc (Nat.le_refl _) _, trivial, fun b hb => hb.elim⟩
theorem off_below {w wr w' : World} {G : Nat → Prop} (h : Below w.heap.size w wr) (hG : ∀ b, G b → w.heap.size ≤ b) (ho : Off G wr w') : Below w.heap.size w w' :=
  h.trans (ho.below h.size hG)
theorem setCell_off {G : Nat → Prop} {wr : World} {p : Nat} (i : Nat) (x : Value) (hG : G p) : Off G wr (wr.setCell ⟨p, i, none⟩ x) :=
  ⟨rfl, rfl, rfl, by simp [World.setCell], fun k hk hn => Below.heap_setCell _ _ _ _ (fun e => hn (by rw [e]; exact hG))⟩
section
variable {w wr : World} {c : UInt8} {vs : List (Fin 4)} {ps : List Fm.T} {fr al : Nat}
theorem NodeInv.below {w' : World} (h : NodeInv w wr c vs ps fr al) (hb : Below wr.heap.size wr w') : NodeInv w w' c vs ps fr al := by
  obtain ⟨G, F, qs, v, u, h1, h2, h3, h4, h5, h6⟩ := h
  refine ⟨G, F, qs, v, u, h1.kept (fun b _ hl => hb.block b hl) (fun _ h => h), h2, fun b hg => ⟨(h3 b hg).1, Nat.lt_of_lt_of_le (h3 b hg).2 hb.size⟩, h4.trans (hb.mono h4.size), h5.kept (fun b _ hl => hb.block b hl) (fun _ h => h), fun b hb' => ?_⟩
  obtain ⟨a1, a2, a3⟩ := h6 b hb'
  exact ⟨a1, a2, Nat.lt_of_lt_of_le a3 hb.size⟩
theorem NodeInv.drew (h : NodeInv w wr c vs ps fr al) : NodeInv w wr.drew c vs ps fr al := h.below ((Below.refl _ _).drew)
theorem NodeInv.old (h : NodeInv w wr c vs ps fr al) : Below w.heap.size w wr := by
  obtain ⟨G, F, qs, v, u, h1, h2, h3, h4, h5, h6⟩ := h
  exact h4
theorem NodeInv.setAll (h : NodeInv w wr c vs ps fr al) (al' : Nat) : NodeInv w (wr.setCell ⟨w.heap.size, 4, none⟩ (.int .i64 (al' : Int))) c vs ps fr al' := by
  obtain ⟨G, F, qs, v, u, h1, h2, h3, h4, h5, h6⟩ := h
  have ho := setCell_off (G := G) (wr := wr) 4 (.int .i64 (al' : Int)) h1.foot
  exact ⟨G, F, qs, v, u, h1.setAll h2 al', h2, fun b hg => ⟨(h3 b hg).1, Nat.lt_of_lt_of_le (h3 b hg).2 ho.size⟩, off_below h4 (fun b hg => (h3 b hg).1) ho, h5.off ho (fun b hb => (h6 b hb).1), fun b hb => ⟨(h6 b hb).1, (h6 b hb).2.1, Nat.lt_of_lt_of_le (h6 b hb).2.2 ho.size⟩⟩
theorem NodeInv.setFree (h : NodeInv w wr c vs ps fr al) (fr' : Nat) : NodeInv w (wr.setCell ⟨w.heap.size, 3, none⟩ (.int .i64 (fr' : Int))) c vs ps fr' al := by
  obtain ⟨G, F, qs, v, u, h1, h2, h3, h4, h5, h6⟩ := h
  have ho := setCell_off (G := G) (wr := wr) 3 (.int .i64 (fr' : Int)) h1.foot
  exact ⟨G, F, qs, v, u, h1.setFree h2 fr', h2, fun b hg => ⟨(h3 b hg).1, Nat.lt_of_lt_of_le (h3 b hg).2 ho.size⟩, off_below h4 (fun b hg => (h3 b hg).1) ho, h5.off ho (fun b hb => (h6 b hb).1), fun b hb => ⟨(h6 b hb).1, (h6 b hb).2.1, Nat.lt_of_lt_of_le (h6 b hb).2.2 ho.size⟩⟩
theorem NodeInv.addVar {G F : Nat → Prop} {qs : List Nat} {v u : Value} (h1 : Nd G wr w.heap.size c vs qs fr al v u) (h2 : Sep w.heap.size v u) (h3 : ∀ b, G b → w.heap.size ≤ b ∧ b < wr.heap.size) (h4 : Below w.heap.size w wr) (h5 : Trees F wr ps qs) (h6 : ∀ b, F b → ¬ G b ∧ w.heap.size ≤ b ∧ b < wr.heap.size)
    {w2 w3 : World} {x : Fin 4} {gg cap : Nat} (hw : Below wr.heap.size wr w2)
    (ho : w3.ownsRow 0 5 1 (.slice (some ⟨gg, 0, none⟩) (vs.length + 1) cap) (vs.length + 1) (vs.map vbV ++ [vbV x])) (hg : w2.grownBy w3 v.ownBlock) (ha : v.ownBlock = some gg ∨ gg = w2.heap.size) :
    NodeInv w (w3.setCell ⟨w.heap.size, 1, none⟩ (.slice (some ⟨gg, 0, none⟩) (vs.length + 1) cap)) c (vs ++ [x]) ps fr al := by
  obtain ⟨a1, a2, a3⟩ := h1.addVar h2 hw ho hg ha
  have hgg : gg < w3.heap.size := (ho.lt gg rfl).2
  have hs3 : ∀ (i : Nat) (x : Value), (w3.setCell ⟨w.heap.size, i, none⟩ x).heap.size = w3.heap.size := fun i x => by simp [World.setCell]
  have h3z : w2.heap.size ≤ w3.heap.size := hg.size
  have hwz := hw.size
  refine ⟨_, F, qs, _, u, a1, a2, fun b hb => ?_, off_below h4 (fun b hg => (h3 b hg).1) a3, h5.off a3 (fun b hb => (h6 b hb).1), fun b hb => ⟨fun hg => ?_, (h6 b hb).2.1, Nat.lt_of_lt_of_le (h6 b hb).2.2 a3.size⟩⟩
  · rw [hs3]
    rcases hb with hb | hb
    · have := h3 b hb; omega
    · have := h4.size; omega
  · rcases hg with hg | hg
    · exact (h6 b hb).1 hg
    · have := (h6 b hb).2.2; omega
theorem NodeInv.addPart {w0 : World} {G F : Nat → Prop} {qs : List Nat} {v u : Value} (h1 : Nd G wr w.heap.size c vs qs fr al v u) (h2 : Sep w.heap.size v u) (h3 : ∀ b, G b → w.heap.size ≤ b ∧ b < wr.heap.size) (h4 : Below w.heap.size w wr) (h5 : Trees F wr ps qs) (h6 : ∀ b, F b → ¬ G b ∧ w.heap.size ≤ b ∧ b < wr.heap.size)
    {f : Fm.T} {q : Nat} (hc : Tree (fun b => w0.heap.size ≤ b) wr f q) (h0 : w.heap.size ≤ w0.heap.size) (hG0 : ∀ b, G b → b < w0.heap.size)
    {w2 w3 : World} {gg cap : Nat} (hw : Below wr.heap.size wr w2)
    (ho : w3.ownsRow 0 82 1 (.slice (some ⟨gg, 0, none⟩) (qs.length + 1) cap) (qs.length + 1) (qs.map ptrV ++ [ptrV q])) (hg : w2.grownBy w3 u.ownBlock) (ha : u.ownBlock = some gg ∨ gg = w2.heap.size) :
    NodeInv w (w3.setCell ⟨w.heap.size, 2, none⟩ (.slice (some ⟨gg, 0, none⟩) (qs.length + 1) cap)) c vs (ps ++ [f]) fr al := by
  obtain ⟨a1, a2, a3⟩ := h1.addPart h2 hw ho hg ha
  have ht := hc.tight
  have hfar : ∀ b, (w0.heap.size ≤ b ∧ b < wr.heap.size) → ¬ G b := fun b hb hg => by have := hG0 b hg; omega
  have hgg : gg < w3.heap.size := (ho.lt gg rfl).2
  have hs3 : ∀ (i : Nat) (x : Value), (w3.setCell ⟨w.heap.size, i, none⟩ x).heap.size = w3.heap.size := fun i x => by simp [World.setCell]
  have h3z : w2.heap.size ≤ w3.heap.size := hg.size
  have hwz := hw.size
  refine ⟨_, fun b => F b ∨ (w0.heap.size ≤ b ∧ b < wr.heap.size), qs ++ [q], v, _, a1, a2, fun b hb => ?_, off_below h4 (fun b hg => (h3 b hg).1) a3, ?_, fun b hb => ?_⟩
  · rw [hs3]
    rcases hb with hb | hb
    · have := h3 b hb; omega
    · have := h4.size; omega
  · refine Trees.snoc ?_ ?_
    · exact (ht.off a3 hfar).mono fun b hb => .inr hb
    · exact (h5.off a3 (fun b hb => (h6 b hb).1)).mono fun b hb => .inl hb
  · have hz := a3.size
    rcases hb with hb | hb
    · refine ⟨fun hg => ?_, (h6 b hb).2.1, Nat.lt_of_lt_of_le (h6 b hb).2.2 hz⟩
      rcases hg with hg | hg
      · exact (h6 b hb).1 hg
      · have := (h6 b hb).2.2; omega
    · refine ⟨fun hg => ?_, by omega, by omega⟩
      rcases hg with hg | hg
      · exact hfar b hb hg
      · omega
theorem NodeInv.tree {φ : Fm.T} (h : NodeInv w wr φ.op φ.vs φ.ps (Fm.free φ) (Fm.vars φ)) : Tree (fun b => w.heap.size ≤ b) wr φ w.heap.size := by
  obtain ⟨G, F, qs, v, u, h1, h2, h3, h4, h5, h6⟩ := h
  exact Tree.of_node (h1.kept (fun _ _ _ => rfl) (fun b hg => (h3 b hg).1)) (h5.mono fun b hb => (h6 b hb).2.1)
end
/-- What parsePart leaves. -/
def ParseP (w : World) (res : Option (Fm.T × List UInt8)) (e : Ending) (w' : World) : Prop :=
  Below w.heap.size w w' ∧ ((res = none ∧ ∃ r : ByteArray, e = .returned (.tuple #[.pointer none, .string r])) ∨
    ∃ (φ : Fm.T) (r : ByteArray) (p : Nat), res = some (φ, r.data.toList) ∧ e = .returned (.tuple #[ptrV p, .string r]) ∧ Tree (fun b => w.heap.size ≤ b) w' φ p)
end Go.Proofs.YtadgiknnejjplaaDoor
