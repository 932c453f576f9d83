/- The reference's table of descriptions: what is known of it in memory, plainly and in the model. No condition. -/
import Derived.Test.YtagnikcnakdehaaDoorAtoms
namespace Go.Proofs.YtagnikcnakdehaaDoor
open Go.RowKit
set_option linter.unusedVariables false

/-- The list in which a description lies. -/
def hashL (l : List UInt8) : Nat := l.foldl (fun k c => (k * 31 + c.toNat) % 997) 0
theorem hash_lt (l : List UInt8) : hashL l < 997 := by
  have h : ∀ (l : List UInt8) (k : Nat), k < 997 → l.foldl (fun k c => (k * 31 + c.toNat) % 997) k < 997 := by
    intro l
    induction l with
    | nil => intro k hk; exact hk
    | cons c l ih => intro k _; exact ih _ (Nat.mod_lt _ (by decide))
  exact h l 0 (by decide)
theorem hash_snoc (l : List UInt8) (c : UInt8) : hashL (l ++ [c]) = (hashL l * 31 + c.toNat) % 997 := by
  simp [hashL, List.foldl_append]
/-- The descriptions in a list, with their numbers. -/
def bucket (D : List (List UInt8)) (k : Nat) : List (List UInt8 × Nat) := D.zipIdx.filter fun p => hashL p.1 == k
theorem bucket_snoc (D : List (List UInt8)) (s : List UInt8) (k : Nat) : bucket (D ++ [s]) k = bucket D k ++ (if hashL s = k then [(s, D.length)] else []) := by
  unfold bucket
  rw [List.zipIdx_append, List.filter_append]
  congr 1
  by_cases h : hashL s = k <;> simp [h]
theorem bucket_mem {D : List (List UInt8)} {k : Nat} {p : List UInt8 × Nat} : p ∈ bucket D k ↔ D[p.2]? = some p.1 ∧ hashL p.1 = k := by
  unfold bucket
  rw [List.mem_filter, beq_iff_eq]
  have : p ∈ D.zipIdx ↔ D[p.2]? = some p.1 := by
    obtain ⟨a, b⟩ := p
    rw [List.mem_zipIdx_iff_getElem?]
  rw [this]
theorem bucket_length (D : List (List UInt8)) (k : Nat) : (bucket D k).length ≤ D.length := by
  have := List.length_filter_le (fun p : List UInt8 × Nat => hashL p.1 == k) D.zipIdx
  simpa [bucket] using this

/-- The cells of entries. -/
def entCells (es : List (List UInt8 × Nat)) : List Value := es.flatMap fun p => [.string (txt p.1), .int .i64 (p.2 : Int)]
theorem entCells_length (es : List (List UInt8 × Nat)) : (entCells es).length = es.length * 2 := by
  induction es with
  | nil => rfl
  | cons p es ih => simp only [entCells, List.flatMap_cons, List.length_append, List.length_cons, List.length_nil] at *; omega
theorem entCells_at (es : List (List UInt8 × Nat)) : ∀ (i : Nat) (h : i < es.length), (entCells es)[i * 2]? = some (.string (txt es[i].1)) ∧ (entCells es)[i * 2 + 1]? = some (.int .i64 (es[i].2 : Int)) := by
  induction es with
  | nil => intro i h; simp at h
  | cons p es ih =>
    intro i h
    cases i with
    | zero => simp [entCells]
    | succ i =>
      have := ih i (by simpa using h)
      rw [show (i + 1) * 2 = i * 2 + 2 by omega, show i * 2 + 2 + 1 = i * 2 + 1 + 2 by omega]
      simpa [entCells] using this

/-- One list of the table. -/
structure Bkt (w : World) (F : Nat → Prop) (gL gC : Nat) (v : Value) (es : List (List UInt8 × Nat)) : Prop where
  own : w.ownsRow 0 178 2 v es.length (entCells es)
  foot : ∀ b, v.ownBlock = some b → F b ∧ b ≠ gL ∧ b ≠ gC
theorem own_block {w w' : World} {B : Nat} {e : TypeId} {z : Nat} {v : Value} {n : Nat} {xs : List Value} (h : w.ownsRow B e z v n xs) (hb : ∀ b, v.ownBlock = some b → w'.heap[b]? = w.heap[b]?) : w'.ownsRow B e z v n xs := by
  refine ⟨h.1, ?_⟩
  rcases h.2 with hn | ⟨g, cap, cur, rfl, hb', hgg, rest⟩
  · exact .inl hn
  · exact .inr ⟨g, cap, cur, rfl, hb', by rw [hb g rfl]; exact hgg, rest⟩
theorem Bkt.kept {w w' : World} {F F' : Nat → Prop} {gL gC : Nat} {v : Value} {es : List (List UInt8 × Nat)} (h : Bkt w F gL gC v es) (hb : ∀ b, v.ownBlock = some b → w'.heap[b]? = w.heap[b]?) (hF : ∀ b, F b → F' b) : Bkt w' F' gL gC v es :=
  ⟨own_block h.own hb, fun b hv => ⟨hF b (h.foot b hv).1, (h.foot b hv).2⟩⟩
theorem Bkt.view {w : World} {F : Nat → Prop} {gL gC : Nat} {v : Value} {es : List (List UInt8 × Nat)} (h : Bkt w F gL gC v es) :
    ∃ (a : Option Addr) (cap : Nat), v = .slice a es.length cap ∧ es.length ≤ cap ∧ cap ≤ maxLen ∧
      (0 < es.length → ∃ g, a = some ⟨g, 0, none⟩ ∧ g < w.heap.size ∧ ∀ i (hi : i < es.length), w.cell? ⟨g, i * 2, none⟩ = some (.string (txt es[i].1)) ∧ w.cell? ⟨g, i * 2 + 1, none⟩ = some (.int .i64 (es[i].2 : Int))) := by
  have ho := h.own
  rcases h.own.2 with ⟨rfl, h0⟩ | ⟨g, cap, cur, rfl, hb, hg, hnc, hcm, hcs, htake⟩
  · exact ⟨none, 0, by rw [h0], by omega, by decide, fun h => by omega⟩
  · refine ⟨_, cap, rfl, hnc, hcm, fun _ => ⟨g, rfl, (ho.lt g rfl).2, fun i hi => ?_⟩⟩
    obtain ⟨h1, h2⟩ := entCells_at es i hi
    rw [ho.cellAt (i * 2) (by omega), ho.cellAt (i * 2 + 1) (by omega)]
    exact ⟨h1, h2⟩

/-- The table in memory. -/
structure Tbl (w : World) (gL gC : Nat) (F : Nat → Prop) (vs : Array Value) (D : List (List UInt8)) : Prop where
  fL : F gL
  fC : F gC
  ne : gL ≠ gC
  lt : ∀ b, F b → b < w.heap.size
  size : vs.size = 997
  lists : w.heap[gL]? = some (.cells vs 176 (0, 0))
  bkt : ∀ k, k < 997 → Bkt w F gL gC (vs.getD k undef) (bucket D k)
  apart : ∀ j k, j < 997 → k < 997 → j ≠ k → (vs.getD j undef).ownBlock = none ∨ (vs.getD j undef).ownBlock ≠ (vs.getD k undef).ownBlock
  count : w.heap[gC]? = some (.cells #[.int .i64 (D.length : Int)] 3 (0, 0))
  nodup : D.Nodup
def tblV (gL gC : Nat) : Value := .agg #[.slice (some ⟨gL, 0, none⟩) 997 997, .slice (some ⟨gC, 0, none⟩) 1 1]
theorem Tbl.off {w w' : World} {gL gC : Nat} {F G : Nat → Prop} {vs : Array Value} {D : List (List UInt8)} (h : Tbl w gL gC F vs D) (hw : Off G w w') (hG : ∀ b, F b → ¬ G b) : Tbl w' gL gC F vs D := by
  have hb : ∀ b, F b → w'.heap[b]? = w.heap[b]? := fun b hf => hw.block b (h.lt b hf) (hG b hf)
  exact ⟨h.fL, h.fC, h.ne, fun b hf => Nat.lt_of_lt_of_le (h.lt b hf) hw.size, h.size, (hb gL h.fL).trans h.lists, fun k hk => (h.bkt k hk).kept (fun b hv => hb b ((h.bkt k hk).foot b hv).1) (fun _ h => h), h.apart, (hb gC h.fC).trans h.count, h.nodup⟩
theorem Tbl.below {w w' : World} {gL gC : Nat} {F : Nat → Prop} {vs : Array Value} {D : List (List UInt8)} (h : Tbl w gL gC F vs D) (hw : Below w.heap.size w w') : Tbl w' gL gC F vs D :=
  h.off (Off.of_below (F := fun _ => False) hw) (fun _ _ h => h)

theorem entInfo : (Tryd.prog.info? 178).map (fun i => (i.zero, i.size, i.bytes)) = some (some (.agg #[.string ByteArray.empty, .int .i64 0]), 2, 24) := by kernel_rfl

/-- A description is added. -/
theorem Tbl.add {w w' : World} {gL gC : Nat} {F : Nat → Prop} {vs : Array Value} {D : List (List UInt8)} {s : List UInt8} {v' : Value} {g : Nat} (h : Tbl w gL gC F vs D) (hs : s ∉ D)
    (hown : w'.ownsRow 0 178 2 v' ((bucket D (hashL s)).length + 1) (entCells (bucket D (hashL s)) ++ [.string (txt s), .int .i64 (D.length : Int)]))
    (hg : v'.ownBlock = some g) (hgn : (vs.getD (hashL s) undef).ownBlock = some g ∨ w.heap.size ≤ g)
    (hL : w'.heap[gL]? = some (.cells (vs.setIfInBounds (hashL s) v') 176 (0, 0)))
    (hC : w'.heap[gC]? = some (.cells #[.int .i64 ((D.length : Int) + 1)] 3 (0, 0)))
    (hsz : w.heap.size ≤ w'.heap.size) (hoth : ∀ b, F b → b ≠ gL → b ≠ gC → (vs.getD (hashL s) undef).ownBlock ≠ some b → w'.heap[b]? = w.heap[b]?) :
    Tbl w' gL gC (fun b => F b ∨ b = g) (vs.setIfInBounds (hashL s) v') (D ++ [s]) := by
  have hk := hash_lt s
  have hglt : g < w'.heap.size := (hown.lt g hg).2
  have hge : g ≠ gL ∧ g ≠ gC := by
    rcases hgn with h1 | h1
    · exact ((h.bkt _ hk).foot g h1).2
    · exact ⟨by have := h.lt gL h.fL; omega, by have := h.lt gC h.fC; omega⟩
  have get1 : (vs.setIfInBounds (hashL s) v').getD (hashL s) undef = v' := by
    rw [Array.getD_eq_getD_getElem?, Array.getElem?_setIfInBounds_self_of_lt (by rw [h.size]; exact hk)]; rfl
  have get2 : ∀ j, j ≠ hashL s → (vs.setIfInBounds (hashL s) v').getD j undef = vs.getD j undef := by
    intro j hj
    rw [Array.getD_eq_getD_getElem?, Array.getElem?_setIfInBounds_ne (Ne.symm hj), ← Array.getD_eq_getD_getElem?]
  have far : ∀ j, j < 997 → j ≠ hashL s → ∀ b, (vs.getD j undef).ownBlock = some b → b ≠ g := by
    intro j hj hjk b hb e
    subst e
    rcases hgn with h1 | h1
    · rcases h.apart j (hashL s) hj hk hjk with h2 | h2
      · rw [h2] at hb; cases hb
      · exact h2 (hb.trans h1.symm)
    · have := h.lt b ((h.bkt j hj).foot b hb).1; omega
  refine ⟨.inl h.fL, .inl h.fC, h.ne, ?_, by simp [h.size], hL, ?_, ?_, ?_, ?_⟩
  · rintro b (hb | rfl)
    · have := h.lt b hb; omega
    · exact hglt
  · intro j hj
    by_cases hjk : j = hashL s
    · subst hjk
      rw [get1, bucket_snoc, if_pos rfl]
      refine ⟨?_, fun b hb => ?_⟩
      · have e : entCells (bucket D (hashL s) ++ [(s, D.length)]) = entCells (bucket D (hashL s)) ++ [.string (txt s), .int .i64 (D.length : Int)] := by
          simp [entCells]
        rw [e, List.length_append, List.length_singleton]
        exact hown
      · rw [hg] at hb
        obtain rfl := Option.some.inj hb
        exact ⟨.inr rfl, hge⟩
    · rw [get2 j hjk, bucket_snoc, if_neg (fun e => hjk e.symm), List.append_nil]
      refine (h.bkt j hj).kept (fun b hb => hoth b ((h.bkt j hj).foot b hb).1 ((h.bkt j hj).foot b hb).2.1 ((h.bkt j hj).foot b hb).2.2 ?_) (fun b hb => .inl hb)
      rcases h.apart j (hashL s) hj hk hjk with h2 | h2
      · rw [h2] at hb; cases hb
      · intro e; exact h2 (hb.trans e.symm)
  · intro j k hj hk' hjk
    by_cases h1 : j = hashL s
    · subst h1
      rw [get1, get2 k (Ne.symm hjk), hg]
      exact .inr fun e => far k hk' (Ne.symm hjk) g e.symm rfl
    · rw [get2 j h1]
      by_cases h2 : k = hashL s
      · subst h2
        rw [get1, hg]
        cases hv : (vs.getD j undef).ownBlock with
        | none => exact .inl rfl
        | some b => exact .inr fun e => far j hj h1 b hv (Option.some.inj e)
      · rw [get2 k h2]
        exact h.apart j k hj hk' hjk
  · rw [hC, List.length_append, List.length_singleton]
    rfl
  · rw [List.nodup_append]
    refine ⟨h.nodup, by simp, fun a ha b hb e => ?_⟩
    simp at hb
    subst hb; subst e
    exact hs ha
end Go.Proofs.YtagnikcnakdehaaDoor
