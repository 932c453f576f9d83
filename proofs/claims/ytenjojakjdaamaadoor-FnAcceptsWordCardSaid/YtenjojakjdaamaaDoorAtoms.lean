/- The reference's l5Atoms: the atoms of a list as bits. Conditions: the structure is valid, the list is of its elements. -/
import Derived.Test.YtenjojakjdaamaaDoorWith
import Derived.Deep.RegionLaw
import Derived.Deep.AppendLies
namespace Go.Proofs.YtenjojakjdaamaaDoor
open Go.RowKit
set_option linter.unusedVariables false

/-- A text of bytes. -/
def txt (l : List UInt8) : ByteArray := ⟨l.toArray⟩
theorem txt_size (l : List UInt8) : (txt l).size = l.length := by
  show l.toArray.size = _
  simp
theorem txt_append (l m : List UInt8) : txt (l ++ m) = txt l ++ txt m := by
  apply ByteArray.ext
  rw [ByteArray.data_append]
  simp [txt]
theorem txt_inj {l m : List UInt8} (h : txt l = txt m) : l = m := by
  have := congrArg (fun b => b.data.toList) h
  simpa [txt] using this
theorem bitS_txt (b : Bool) : bitS b = txt [Gs.bitU b] := rfl
theorem l1Set_b (n : Int) (S R : ByteArray) (x : Nat) (w : World) (hx : x < S.size) (hS : S.size ≤ 9223372036854775807) :
    Calls Tryd.prog 127 #[strV n S R, .int .i64 (x : Int)] w fun e w' => e = .returned (.bool (oneAt S x)) ∧ Below w.heap.size w w' :=
  (l1Set_any n S R x w hx hS).mono fun _ _ ⟨h1, h2⟩ => ⟨h1, by rw [h2]; exact boxS_below _ _ _ _⟩
theorem l1Rel_b (n : Nat) (S R : ByteArray) (x y : Nat) (w : World) (hx : x < n) (hy : y < n) (hn : n ≤ 8) (hR : R.size = n * n) :
    Calls Tryd.prog 125 #[strV n S R, .int .i64 (x : Int), .int .i64 (y : Int)] w fun e w' => e = .returned (.bool (relAt n R x y)) ∧ Below w.heap.size w w' :=
  (l1Rel_any n S R x y w hx hy hn hR).mono fun _ _ ⟨h1, h2⟩ => ⟨h1, by rw [h2]; exact boxS_below _ _ _ _⟩

theorem ret_str {a b : ByteArray} (h : a = b) : Ending.returned (.string a) = .returned (.string b) := by rw [h]
/-- The atoms of an element and those before it, as far as k. -/
def part (a : Gs.St) (la : List Nat) (x k : Nat) : List UInt8 := Gs.bitU (a.s x) :: ((la.take k).flatMap fun y => [Gs.bitU (decide (x = y)), Gs.bitU (a.r x y), Gs.bitU (a.r y x)])
theorem part_length (a : Gs.St) (la : List Nat) (x k : Nat) : (part a la x k).length ≤ 1 + 3 * k := by
  have h : ∀ l : List Nat, (l.flatMap fun y => [Gs.bitU (decide (x = y)), Gs.bitU (a.r x y), Gs.bitU (a.r y x)]).length = 3 * l.length := by
    intro l
    induction l with
    | nil => rfl
    | cons y l ih => simp only [List.flatMap_cons, List.length_append, List.length_cons, List.length_nil, ih]; omega
  unfold part
  rw [List.length_cons, h, List.length_take]
  omega
theorem part_succ (a : Gs.St) (la : List Nat) (x k : Nat) (hk : k < la.length) : part a la x (k + 1) = part a la x k ++ ([Gs.bitU (decide (x = la.getD k 0))] ++ [Gs.bitU (a.r x (la.getD k 0))] ++ [Gs.bitU (a.r (la.getD k 0) x)]) := by
  unfold part
  rw [List.take_succ_eq_append_getElem hk, List.flatMap_append, List.cons_append]
  simp [hk]
theorem part_all (a : Gs.St) (la : List Nat) (i : Nat) (hi : i < la.length) : Gs.atomsTo a la (i + 1) = Gs.atomsTo a la i ++ part a la (la.getD i 0) (i + 1) := by
  show Gs.atomsTo a la i ++ Gs.atomsAt a (la.take i) (la.getD i 0) = _
  unfold Gs.atomsAt part
  rw [List.take_succ_eq_append_getElem hi]
  simp [hi]
theorem atomsTo_le (a : Gs.St) (la : List Nat) (i : Nat) (hi : i ≤ 8) : (Gs.atomsTo a la i).length ≤ 28 * i := by
  induction i with
  | zero => simp [Gs.atomsTo]
  | succ i ih =>
    simp only [Gs.atomsTo, List.length_append, Gs.atomsAt_length, List.length_take]
    have := ih (by omega)
    omega

end Go.Proofs.YtenjojakjdaamaaDoor
/- The reference's table of descriptions: what is known of it in memory, plainly and in the model. No condition. -/
namespace Go.Proofs.YtenjojakjdaamaaDoor
open Go.RowKit
set_option linter.unusedVariables false

/-- The list in which a description lies. -/
def hashL (l : List UInt8) : Nat := l.foldl (fun k c => (k * 31 + c.toNat) % 997) 0
theorem hash_lt (l : List UInt8) : hashL l < 997 := by
  have h : ∀ (l : List UInt8) (k : Nat), k < 997 → l.foldl (fun k c => (k * 31 + c.toNat) % 997) k < 997 := by
    intro l
    induction l with
    | nil => intro k hk; exact hk
    | cons c l ih => intro k _; exact ih _ (Nat.mod_lt _ (by decide))
  exact h l 0 (by decide)
theorem hash_snoc (l : List UInt8) (c : UInt8) : hashL (l ++ [c]) = (hashL l * 31 + c.toNat) % 997 := by
  simp [hashL, List.foldl_append]
/-- The descriptions in a list, with their numbers. -/
def bucket (D : List (List UInt8)) (k : Nat) : List (List UInt8 × Nat) := D.zipIdx.filter fun p => hashL p.1 == k
theorem bucket_snoc (D : List (List UInt8)) (s : List UInt8) (k : Nat) : bucket (D ++ [s]) k = bucket D k ++ (if hashL s = k then [(s, D.length)] else []) := by
  unfold bucket
  rw [List.zipIdx_append, List.filter_append]
  congr 1
  by_cases h : hashL s = k <;> simp [h]
theorem bucket_mem {D : List (List UInt8)} {k : Nat} {p : List UInt8 × Nat} : p ∈ bucket D k ↔ D[p.2]? = some p.1 ∧ hashL p.1 = k := by
  unfold bucket
  rw [List.mem_filter, beq_iff_eq]
  have : p ∈ D.zipIdx ↔ D[p.2]? = some p.1 := by
    obtain ⟨a, b⟩ := p
    rw [List.mem_zipIdx_iff_getElem?]
  rw [this]
theorem bucket_length (D : List (List UInt8)) (k : Nat) : (bucket D k).length ≤ D.length := by
  have := List.length_filter_le (fun p : List UInt8 × Nat => hashL p.1 == k) D.zipIdx
  simpa [bucket] using this

/-- The cells of entries. -/
def entCells (es : List (List UInt8 × Nat)) : List Value := es.flatMap fun p => [.string (txt p.1), .int .i64 (p.2 : Int)]
theorem entCells_length (es : List (List UInt8 × Nat)) : (entCells es).length = es.length * 2 := by
  induction es with
  | nil => rfl
  | cons p es ih => simp only [entCells, List.flatMap_cons, List.length_append, List.length_cons, List.length_nil] at *; omega
theorem entCells_at (es : List (List UInt8 × Nat)) : ∀ (i : Nat) (h : i < es.length), (entCells es)[i * 2]? = some (.string (txt es[i].1)) ∧ (entCells es)[i * 2 + 1]? = some (.int .i64 (es[i].2 : Int)) := by
  induction es with
  | nil => intro i h; simp at h
  | cons p es ih =>
    intro i h
    cases i with
    | zero => simp [entCells]
    | succ i =>
      have := ih i (by simpa using h)
      rw [show (i + 1) * 2 = i * 2 + 2 by omega, show i * 2 + 2 + 1 = i * 2 + 1 + 2 by omega]
      simpa [entCells] using this

theorem own_block {w w' : World} {B : Nat} {e : TypeId} {z : Nat} {v : Value} {n : Nat} {xs : List Value} (h : w.ownsRow B e z v n xs) (hb : ∀ b, v.ownBlock = some b → w'.heap[b]? = w.heap[b]?) : w'.ownsRow B e z v n xs := by
  refine ⟨h.1, ?_⟩
  rcases h.2 with hn | ⟨g, cap, cur, rfl, hb', hgg, rest⟩
  · exact .inl hn
  · exact .inr ⟨g, cap, cur, rfl, hb', by rw [hb g rfl]; exact hgg, rest⟩
def tblV (gL gC : Nat) : Value := .agg #[.slice (some ⟨gL, 0, none⟩) 997 997, .slice (some ⟨gC, 0, none⟩) 1 1]
end Go.Proofs.YtenjojakjdaamaaDoor
/- The reference's l5Number: the number of a description, which is added if it is new. Conditions: the table is one, it is not great, the text is not long. -/
namespace Go.Proofs.YtenjojakjdaamaaDoor
open Go.RowKit
set_option linter.unusedVariables false

theorem bucket_find {D : List (List UInt8)} (hD : D.Nodup) {k i : Nat} (hi : i < (bucket D k).length) : D[(bucket D k)[i].2]? = some (bucket D k)[i].1 := (bucket_mem.1 (List.getElem_mem hi)).1
theorem bucket_none {D : List (List UInt8)} {s : List UInt8} (h : ∀ i (hi : i < (bucket D (hashL s)).length), (bucket D (hashL s))[i].1 ≠ s) : s ∉ D := by
  intro hs
  obtain ⟨n, hn⟩ := List.mem_iff_getElem?.1 hs
  have hm : (s, n) ∈ bucket D (hashL s) := bucket_mem.2 ⟨hn, rfl⟩
  obtain ⟨i, hi, he⟩ := List.mem_iff_getElem.1 hm
  exact h i hi (by rw [he])
theorem txt_toList (l : List UInt8) : (txt l).data.toList = l := by simp [txt]
theorem txt_eq (l m : List UInt8) : ((txt l).toList == (txt m).toList) = decide (l = m) := by
  rw [ByteArray.toList_eq, ByteArray.toList_eq, txt_toList, txt_toList, Bool.eq_iff_iff, beq_iff_eq, decide_eq_true_eq]

end Go.Proofs.YtenjojakjdaamaaDoor
