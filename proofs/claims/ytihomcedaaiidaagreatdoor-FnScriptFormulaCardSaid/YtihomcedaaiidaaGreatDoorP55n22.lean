/- Contracts of the program's functions and what they compute: part 22. Conditions: those that each theorem states. -/
import Derived.Test.YtihomcedaaiidaaGreatDoorP55n7
import Derived.Test.YtihomcedaaiidaaGreatDoorP55n10
import Derived.Test.YtihomcedaaiidaaGreatDoorP55n11
import Derived.Laws.IdiomStrings
import Derived.Maps.AppendAt
import Derived.IntWalk
namespace Go.Proofs.YtihomcedaaiidaaGreatDoor
open Go.RowKit
set_option linter.unusedVariables false
namespace Fm
/-- With a view or without. -/
def putG (V : Option (T × T)) : T → M → Option T
  | .lit b, _ => some (.lit b)
  | .set v, m => match V with | none => some (.set (m v)) | some p => put p.1 (fput id 0 (m v))
  | .rel false v w, m => some (.rel false (m v) (m w))
  | .rel true v w, m => match V with | none => some (.rel true (m v) (m w)) | some p => put p.2 (fput (fput id 1 (m w)) 0 (m v))
  | .neg f, m => (putG V f m).map .neg
  | .bin o f g, m => (putG V f m).bind fun a => (putG V g m).map fun b => .bin o a b
  | .qu q v f, m => (fresh v (free f) m).bind fun u => (putG V f (fput m v u)).map (.qu q u)
theorem putG_none : ∀ (φ : T) (m : M), putG none φ m = put φ m
  | .lit _, _ => rfl
  | .set _, _ => rfl
  | .rel false _ _, _ => rfl
  | .rel true _ _, _ => rfl
  | .neg f, m => by simp only [putG, put]; rw [putG_none f]
  | .bin o f g, m => by simp only [putG, put]; rw [putG_none f, putG_none g]
  | .qu q v f, m => by
    simp only [putG, put]
    congr 1
    funext u
    rw [putG_none f]
theorem putG_some (ps pr : T) : ∀ (φ : T) (m : M), putG (some (ps, pr)) φ m = putV ps pr φ m
  | .lit _, _ => rfl
  | .set _, _ => rfl
  | .rel false _ _, _ => rfl
  | .rel true _ _, _ => rfl
  | .neg f, m => by simp only [putG, putV]; rw [putG_some ps pr f]
  | .bin o f g, m => by simp only [putG, putV]; rw [putG_some ps pr f, putG_some ps pr g]
  | .qu q v f, m => by
    simp only [putG, putV]
    congr 1
    funext u
    rw [putG_some ps pr f]
/-- The texts of a view are not long. -/
def VShort (V : Option (T × T)) : Prop := ∀ p, V = some p → (text p.1).length ≤ 4000 ∧ (text p.2).length ≤ 4000
theorem putG_size {V : Option (T × T)} (hV : VShort V) {φ : T} (hφ : (text φ).length ≤ 4000) {m : M} {ψ : T} (h : putG V φ m = some ψ) : (text ψ).length ≤ 16000000 := by
  cases V with
  | none => rw [putG_none] at h; rw [text_put φ h]; omega
  | some p =>
    obtain ⟨ps, pr⟩ := p
    have hp := hV _ rfl
    rw [putG_some] at h
    have := text_putV hp.1 hp.2 φ h
    omega
/-- How the text of what is put comes of those of the parts. -/
structure PutFacts (V : Option (T × T)) (ps : List T) (m : M) (hd : List UInt8) (R : Option T) : Prop where
  no : ∀ f ∈ ps, putG V f m = none → R = none
  yes : ∀ ψs : List T, ps.map (fun f => putG V f m) = ψs.map some → ∃ ψ, R = some ψ ∧ text ψ = hd ++ ψs.flatMap text
theorem facts_nil {V : Option (T × T)} {m : M} {ψ : T} {hd : List UInt8} (h : text ψ = hd) : PutFacts V [] m hd (some ψ) :=
  ⟨(fun f hf => by cases hf), (fun ψs h' => by
    have : ψs = [] := by simpa using h'.symm
    subst this
    exact ⟨ψ, rfl, by simpa using h⟩)⟩
theorem facts_one {V : Option (T × T)} {m : M} {f : T} {c : T → T} {hd : List UInt8} (h : ∀ a, text (c a) = hd ++ text a) : PutFacts V [f] m hd ((putG V f m).map c) := by
  refine ⟨fun g hg hn => ?_, fun ψs h' => ?_⟩
  · obtain rfl : g = f := by simpa using hg
    rw [hn]; rfl
  · have hl : ψs.length = 1 := by have := congrArg List.length h'; simpa using this.symm
    obtain ⟨a, rfl⟩ := List.length_eq_one_iff.1 hl
    have : putG V f m = some a := by simpa using h'
    exact ⟨c a, by rw [this]; rfl, by simp [h a]⟩
theorem facts_two {V : Option (T × T)} {m : M} {f g : T} {c : T → T → T} {hd : List UInt8} (h : ∀ a b, text (c a b) = hd ++ (text a ++ text b)) : PutFacts V [f, g] m hd ((putG V f m).bind fun a => (putG V g m).map fun b => c a b) := by
  refine ⟨fun k hk hn => ?_, fun ψs h' => ?_⟩
  · rcases (by simpa using hk : k = f ∨ k = g) with rfl | rfl
    · rw [hn]; rfl
    · rw [hn]
      cases putG V f m <;> rfl
  · have hl : ψs.length = 2 := by have := congrArg List.length h'; simpa using this.symm
    obtain ⟨a, b, rfl⟩ : ∃ a b, ψs = [a, b] := by match ψs, hl with | [a, b], _ => exact ⟨a, b, rfl⟩
    have h1 : putG V f m = some a ∧ putG V g m = some b := by simpa using h'
    exact ⟨c a b, by rw [h1.1, h1.2]; rfl, by simp [h a b]⟩
/-- Where neither a view nor a quantifier is met. -/
theorem facts_plain {V : Option (T × T)} (m : M) : ∀ φ : T, isQu φ.op = false → (φ.op = 80 → V = none) → (φ.op = 69 → V = none) → PutFacts V φ.ps m (φ.op :: φ.vs.map fun x => vb (m x)) (putG V φ m)
  | .lit _, _, _, _ => facts_nil (by simp [text, T.op, T.vs])
  | .set x, _, h, _ => by
    obtain rfl := h rfl
    exact facts_nil (by simp [text, T.op, T.vs])
  | .rel false x y, _, _, _ => facts_nil (by simp [text, T.op, T.vs])
  | .rel true x y, _, _, h => by
    obtain rfl := h rfl
    exact facts_nil (by simp [text, T.op, T.vs])
  | .neg f, _, _, _ => facts_one (fun a => by simp [text, T.op, T.vs])
  | .bin o f g, _, _, _ => facts_two (fun a b => by simp [text, T.op, T.vs])
  | .qu q v f, h, _, _ => absurd h (by show ¬ isQu q.byte = false; unfold isQu; rw [quOf_byte]; simp)
theorem facts_qu {V : Option (T × T)} (m : M) (q : Q) (v u : Fin 4) (f : T) (hf : fresh v (free f) m = some u) : PutFacts V [f] (fput m v u) [q.byte, vb u] (putG V (.qu q v f) m) := by
  have : putG V (.qu q v f) m = (putG V f (fput m v u)).map (.qu q u) := by simp [putG, hf]
  rw [this]
  exact facts_one (fun a => by simp [text])
theorem putG_qu_none {V : Option (T × T)} {m : M} {q : Q} {v : Fin 4} {f : T} (hf : fresh v (free f) m = none) : putG V (.qu q v f) m = none := by simp [putG, hf]
/-- The variables that are taken by the first i ones. -/
def tkTo (s : Nat) (m : M) (v : Fin 4) : Nat → Fin 4 → Bool
  | 0, _ => false
  | i + 1, w => tkTo s m v i w || (decide (s / 2 ^ i % 2 = 1) && decide (i ≠ v.val) && (if h : i < 4 then decide (m ⟨i, h⟩ = w) else false))
theorem tkTo_four (s : Nat) (m : M) (v w : Fin 4) : tkTo s m v 4 w = taken s m v w := by
  have hb : ∀ i, s.testBit i = decide (s / 2 ^ i % 2 = 1) := fun i => Nat.testBit_eq_decide_div_mod_eq
  have e0 : decide ((0 : Nat) ≠ v.val) = decide ((0 : Fin 4) ≠ v) := by revert v; decide
  have e1 : decide ((1 : Nat) ≠ v.val) = decide ((1 : Fin 4) ≠ v) := by revert v; decide
  have e2 : decide ((2 : Nat) ≠ v.val) = decide ((2 : Fin 4) ≠ v) := by revert v; decide
  have e3 : decide ((3 : Nat) ≠ v.val) = decide ((3 : Fin 4) ≠ v) := by revert v; decide
  unfold taken
  rw [hb, hb, hb, hb, ← e0, ← e1, ← e2, ← e3]
  simp [tkTo]
def firstFree (t : Fin 4 → Bool) : Int := if t 0 then if t 1 then if t 2 then if t 3 then -1 else 3 else 2 else 1 else 0
theorem fresh_taken {v : Fin 4} {s : Nat} {m : M} (h : taken s m v v = true) : (fresh v s m = none ∧ firstFree (taken s m v) = -1) ∨ ∃ u : Fin 4, fresh v s m = some u ∧ firstFree (taken s m v) = (u.val : Int) := by
  unfold fresh firstFree
  rw [if_pos h]
  cases h0 : taken s m v 0
  · exact .inr ⟨0, by simp, by simp⟩
  · cases h1 : taken s m v 1
    · exact .inr ⟨1, by simp, by simp⟩
    · cases h2 : taken s m v 2
      · exact .inr ⟨2, by simp, by simp⟩
      · cases h3 : taken s m v 3
        · exact .inr ⟨3, by simp, by simp; rfl⟩
        · exact .inl ⟨by simp, by simp⟩
theorem fresh_kept {v : Fin 4} {s : Nat} {m : M} (h : taken s m v v = false) : fresh v s m = some v := by
  unfold fresh
  rw [if_neg (by simp [h])]
end Fm
/-- Four cells. -/
def c4 (f : Fin 4 → Value) : Array Value := #[f 0, f 1, f 2, f 3]
section
variable {w : World} {b : Nat} {f : Fin 4 → Value} {t : TypeId}
theorem c4_cell (h : w.heap[b]? = some (.cells (c4 f) t (0, 0))) (x : Fin 4) : w.cell? ⟨b, x.val, none⟩ = some (f x) := by
  have e : w.cell? ⟨b, x.val, none⟩ = (c4 f)[x.val]? := by simp [World.cell?, h]
  rw [e]
  match x with
  | 0 => rfl
  | 1 => rfl
  | 2 => rfl
  | 3 => rfl
theorem c4_frozen (h : w.heap[b]? = some (.cells (c4 f) t (0, 0))) (i : Nat) : w.frozen? ⟨b, i, none⟩ = false := by simp [World.frozen?, h]
theorem c4_set (h : w.heap[b]? = some (.cells (c4 f) t (0, 0))) (x : Fin 4) (v : Value) : (w.setCell ⟨b, x.val, none⟩ v).heap[b]? = some (.cells (c4 fun y => if y = x then v else f y) t (0, 0)) := by
  match x with
  | 0 => show (w.setCell ⟨b, 0, none⟩ v).heap[b]? = _; simp [World.setCell, Array.getElem?_modify, h, c4]
  | 1 => show (w.setCell ⟨b, 1, none⟩ v).heap[b]? = _; simp [World.setCell, Array.getElem?_modify, h, c4]
  | 2 => show (w.setCell ⟨b, 2, none⟩ v).heap[b]? = _; simp [World.setCell, Array.getElem?_modify, h, c4]
  | 3 => show (w.setCell ⟨b, 3, none⟩ v).heap[b]? = _; simp [World.setCell, Array.getElem?_modify, h, c4]
end
/-- The byte of the variable that stands in place of one. -/
def bAt (m : Fm.M) (x : Fin 4) : Int := ((97 + (m x).val : Nat) : Int)
theorem bAt_sub (m : Fm.M) (x : Fin 4) : IntKind.u8.wrap (bAt m x - 97) = ((m x).val : Int) := vb_sub2 (m x)
theorem bAt_vb (m : Fm.M) (x : Fin 4) : bAt m x = ((Fm.vb (m x)).toNat : Int) := by unfold bAt; rw [vb_nat]; omega
def arrC (m : Fm.M) : Array Value := c4 fun x => .int .u8 (bAt m x)
def arrV (m : Fm.M) : Value := .agg (arrC m)
/-- The slice v of the world w is the call's own since block B, and holds the bytes L. -/
structure OwnB (B : Nat) (w : World) (v : Value) (L : List Int) : Prop where
  own : w.ownsRow B 5 1 v L.length (L.map (Value.int .u8))
  ne : v ≠ .slice none 0 0
  low : B ≤ w.heap.size
theorem OwnB.cells {B : Nat} {w : World} {v : Value} {L : List Int} (h : OwnB B w v L) :
    ∃ g cap, v = .slice (some ⟨g, 0, none⟩) L.length cap ∧ B ≤ g ∧ g < w.heap.size ∧ L.length ≤ cap ∧ cap ≤ maxLen ∧ ∀ j, j < L.length → w.cell? ⟨g, j, none⟩ = some (.int .u8 (L.getD j 0)) := by
  rcases h.own.2 with ⟨h1, h2⟩ | ⟨g, cap, cur, rfl, hb, hg, hnc, hcm, hcs, htake⟩
  · exact absurd h1 h.ne
  · refine ⟨g, cap, rfl, hb, (h.own.lt g rfl).2, hnc, hcm, fun j hj => ?_⟩
    rw [h.own.cellAt j (by omega)]
    simp [hj]
theorem OwnB.lit (B : Nat) (w : World) (b : Nat) (hb : w.heap.size = b) (hB : B ≤ w.heap.size) : OwnB B (w.alloc (.cells #[] 5)) (.slice (some ⟨b, 0, none⟩) 0 0) [] := by
  subst hb
  exact ⟨World.ownsRow_made w #[] 0 hB (by decide) rfl, by simp, by simp; omega⟩
theorem OwnB.kept {B : Nat} {w w' : World} {v : Value} {L : List Int} (h : OwnB B w v L) (hb : ∀ k, v.ownBlock = some k → k < w.heap.size → w'.heap[k]? = w.heap[k]?) (hs : w.heap.size ≤ w'.heap.size) : OwnB B w' v L := by
  refine ⟨⟨h.own.1, ?_⟩, h.ne, Nat.le_trans h.low hs⟩
  rcases h.own.2 with hn | ⟨g, cap, cur, rfl, hb', hgg, rest⟩
  · exact .inl hn
  · exact .inr ⟨g, cap, cur, rfl, hb', by rw [hb g rfl (Array.getElem?_eq_some_iff.1 hgg).1]; exact hgg, rest⟩
theorem OwnB.below {B : Nat} {w w' : World} {v : Value} {L : List Int} (h : OwnB B w v L) (hb : Below w.heap.size w w') : OwnB B w' v L := h.kept (fun k _ hk => hb.block k hk) hb.size
/-- One byte is appended to a slice of the call's own. -/
theorem wpList_ownB1 {ops : Array Oper} {rest : List Oper} {o : Oper} {a : Act} {Q : Exit → Act → World → Prop} {B : Nat} {w : World} {v : Value} {L : List Int}
    (hown : OwnB B w v L) (hL : L.length ≤ 2000000) (hgd : o.guard = none) (s x : Operand)
    (ho : o.op = .call { callee := .builtin .append, args := #[s, x], argTypes := #[22, 22] }) (y : Int) (b : Nat) (hb : w.heap.size = b)
    (hs : a.eval s = v) (hx : a.eval x = .slice (some ⟨b, 0, none⟩) 1 1)
    (h : ∀ v' w', OwnB B w' v' (L ++ [y]) → w.grownBy w' v.ownBlock → wpList Tryz.prog ops Q rest (a.put o.dst v') w') :
    wpList Tryz.prog ops Q (o :: rest) a (w.alloc (.cells #[.int .u8 y] 5)) := by
  subst hb
  obtain ⟨i, hi, hz, h1, h2⟩ := info_parts info_u8
  have hbase : B ≤ w.heap.size := hown.low
  refine wpList_append_own _ hgd s x 22 ho B 5 i (.int .u8 0) 1 1 Tryz.underlying22 hi hz h1 h2 rfl (by decide) v L.length _ hs (hown.own.alloc _) ⟨w.heap.size, 0, none⟩ 1 1 [.int .u8 y] hx rfl ?_ ?_ ?_ ?_ ?_ ?_
  · intro j u hj
    match j, hj with
    | 0, hj => simp at hj; subst hj; simp [Addr.add]
  · intro u hu
    simp at hu; subst hu; rfl
  · unfold maxLen; omega
  · omega
  · simp; omega
  · intro v' w' h2 h3 h4
    refine h v' w' ⟨?_, ?_, ?_⟩ ?_
    · simpa using h2
    · intro e
      exact hown.ne (h4.1 e).1
    · have := h3.size
      simp at this
      omega
    · refine ⟨h3.os, h3.tape, h3.output, ?_, fun k hk hne => ?_⟩
      · have := h3.size
        simp at this
        omega
      · rw [h3.block k (by simp; omega) hne]
        exact Below.heap_alloc _ _ _ hk
/-- The text of a slice of bytes. -/
theorem conv_bytes (w : World) (g cap : Nat) (l : List UInt8) (h : ∀ j (hj : j < l.length), w.cell? ⟨g, j, none⟩ = some (.int .u8 (l[j].toNat : Int))) :
    (convert 22 9 (.slice (some ⟨g, 0, none⟩) l.length cap)).run Tryz.prog w = .ok (.string ⟨l.toArray⟩) w :=
  run_convert_bytes_back w 22 9 5 ⟨g, 0, none⟩ cap l Tryz.underlying22 Tryz.underlying5 Tryz.underlying9 (fun j hj => by
    have e : (⟨g, 0, none⟩ : Addr).add j = ⟨g, j, none⟩ := by unfold Addr.add; split <;> simp_all
    rw [e]; exact h j hj)
/-- The first cell that is false. -/
theorem index_bools (t : Fin 4 → Bool) (x : Nat) (ty : TypeId) (w : World) (h : w.heap[x]? = some (.cells (c4 fun j => .bool (t j)) ty (0, 0))) :
    Calls Tryz.prog 140 #[.slice (some ⟨x, 0, none⟩) 4 4, .bool false] w fun e w' => e = .returned (.int .i64 (Fm.firstFree t)) ∧ w' = w := by
  have d0 : w.cell? ⟨x, 0, none⟩ = some (.bool (t 0)) := c4_cell h 0
  have d1 : w.cell? ⟨x, 1, none⟩ = some (.bool (t 1)) := c4_cell h 1
  have d2 : w.cell? ⟨x, 2, none⟩ = some (.bool (t 2)) := c4_cell h 2
  have d3 : w.cell? ⟨x, 3, none⟩ = some (.bool (t 3)) := c4_cell h 3
  unfold Fm.firstFree
  generalize t 0 = t0 at *
  generalize t 1 = t1 at *
  generalize t 2 = t2 at *
  generalize t 3 = t3 at *
  clear h
  obtain ⟨RES, hres⟩ : ∃ r : Int, (if t0 then if t1 then if t2 then if t3 then -1 else 3 else 2 else 1 else 0) = r := ⟨_, rfl⟩
  rw [hres]
  have HR := Lib.hid hres
  clear hres
  go_enter Tryz.func140, Tryz.ntmps140
  go_wp2_with fail
  go_loop [8] (fun i => i = .int .i64 0 ∨ (i = .int .i64 1 ∧ Hid (t0 = true)) ∨ (i = .int .i64 2 ∧ Hid (t0 = true ∧ t1 = true)) ∨ (i = .int .i64 3 ∧ Hid (t0 = true ∧ t1 = true ∧ t2 = true)) ∨ (i = .int .i64 4 ∧ Hid (t0 = true ∧ t1 = true ∧ t2 = true ∧ t3 = true))) (fun i => 4 - (intOf i).toNat)
  case atStart => exact .inl rfl
  case round =>
    rcases hrel with rfl | ⟨rfl, H⟩ | ⟨rfl, H⟩ | ⟨rfl, H⟩ | ⟨rfl, H⟩
    · cases t0
      · have HE : Hid ((0 : Int) = RES) := by show _ = _; rw [← HR.out]; simp
        go_wp2_with fail
        go_ret
        exact ⟨ret_int HE.out, rfl⟩
      · go_wp2_with fail
        go_round
        case rel => exact .inr (.inl ⟨rfl, (by first | rfl | exact True.intro)⟩)
        case measure => simp [intOf]
    · cases t1
      · have HE : Hid ((1 : Int) = RES) := by show _ = _; rw [← HR.out, H.out]; simp
        go_wp2_with fail
        go_ret
        exact ⟨ret_int HE.out, rfl⟩
      · go_wp2_with fail
        go_round
        case rel => exact .inr (.inr (.inl ⟨rfl, H.out, (by first | rfl | exact True.intro)⟩))
        case measure => simp [intOf]
    · cases t2
      · have HE : Hid ((2 : Int) = RES) := by show _ = _; rw [← HR.out, H.out.1, H.out.2]; simp
        go_wp2_with fail
        go_ret
        exact ⟨ret_int HE.out, rfl⟩
      · go_wp2_with fail
        go_round
        case rel => exact .inr (.inr (.inr (.inl ⟨rfl, H.out.1, H.out.2, (by first | rfl | exact True.intro)⟩)))
        case measure => simp [intOf]
    · cases t3
      · have HE : Hid ((3 : Int) = RES) := by show _ = _; rw [← HR.out, H.out.1, H.out.2.1, H.out.2.2]; simp
        go_wp2_with fail
        go_ret
        exact ⟨ret_int HE.out, rfl⟩
      · go_wp2_with fail
        go_round
        case rel => exact .inr (.inr (.inr (.inr ⟨rfl, H.out.1, H.out.2.1, H.out.2.2, (by first | rfl | exact True.intro)⟩)))
        case measure => simp [intOf]
    · have HE : Hid ((-1 : Int) = RES) := by show _ = _; rw [← HR.out, H.out.1, H.out.2.1, H.out.2.2.1, H.out.2.2.2]; simp
      go_wp2_with fail
      go_ret
      exact ⟨ret_int HE.out, rfl⟩
end Go.Proofs.YtihomcedaaiidaaGreatDoor
