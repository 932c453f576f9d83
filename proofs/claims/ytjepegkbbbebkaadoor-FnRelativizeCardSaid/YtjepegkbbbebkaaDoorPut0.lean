/- What the program's put needs: with a view or without, plainly; rows of bytes that a call builds; arrays of four. No condition. -/
import Derived.Test.YtjepegkbbbebkaaDoorFm
import Derived.Test.YtjepegkbbbebkaaDoorParse0
import Derived.Laws.IdiomStrings
import Derived.Maps.AppendAt
import Derived.Test.YtjepegkbbbebkaaDoorFmEnd
import Derived.IntWalk
namespace Go.Proofs.YtjepegkbbbebkaaDoor
open Go.RowKit
set_option linter.unusedVariables false

namespace Fm
/-- With a view or without. -/
def putG (V : Option (T × T)) : T → M → Option T
  | .lit b, _ => some (.lit b)
  | .set v, m => match V with | none => some (.set (m v)) | some p => put p.1 (fput id 0 (m v))
  | .rel false v w, m => some (.rel false (m v) (m w))
  | .rel true v w, m => match V with | none => some (.rel true (m v) (m w)) | some p => put p.2 (fput (fput id 1 (m w)) 0 (m v))
  | .neg f, m => (putG V f m).map .neg
  | .bin o f g, m => (putG V f m).bind fun a => (putG V g m).map fun b => .bin o a b
  | .qu q v f, m => (fresh v (free f) m).bind fun u => (putG V f (fput m v u)).map (.qu q u)
theorem putG_none : ∀ (φ : T) (m : M), putG none φ m = put φ m
  | .lit _, _ => rfl
  | .set _, _ => rfl
  | .rel false _ _, _ => rfl
  | .rel true _ _, _ => rfl
  | .neg f, m => by simp only [putG, put]; rw [putG_none f]
  | .bin o f g, m => by simp only [putG, put]; rw [putG_none f, putG_none g]
  | .qu q v f, m => by
    simp only [putG, put]
    congr 1
    funext u
    rw [putG_none f]
theorem putG_some (ps pr : T) : ∀ (φ : T) (m : M), putG (some (ps, pr)) φ m = putV ps pr φ m
  | .lit _, _ => rfl
  | .set _, _ => rfl
  | .rel false _ _, _ => rfl
  | .rel true _ _, _ => rfl
  | .neg f, m => by simp only [putG, putV]; rw [putG_some ps pr f]
  | .bin o f g, m => by simp only [putG, putV]; rw [putG_some ps pr f, putG_some ps pr g]
  | .qu q v f, m => by
    simp only [putG, putV]
    congr 1
    funext u
    rw [putG_some ps pr f]
/-- The texts of a view are not long. -/
def VShort (V : Option (T × T)) : Prop := ∀ p, V = some p → (text p.1).length ≤ 4000 ∧ (text p.2).length ≤ 4000
theorem putG_size {V : Option (T × T)} (hV : VShort V) {φ : T} (hφ : (text φ).length ≤ 4000) {m : M} {ψ : T} (h : putG V φ m = some ψ) : (text ψ).length ≤ 16000000 := by
  cases V with
  | none => rw [putG_none] at h; rw [text_put φ h]; omega
  | some p =>
    obtain ⟨ps, pr⟩ := p
    have hp := hV _ rfl
    rw [putG_some] at h
    have := text_putV hp.1 hp.2 φ h
    omega
/-- How the text of what is put comes of those of the parts. -/
structure PutFacts (V : Option (T × T)) (ps : List T) (m : M) (hd : List UInt8) (R : Option T) : Prop where
  no : ∀ f ∈ ps, putG V f m = none → R = none
  yes : ∀ ψs : List T, ps.map (fun f => putG V f m) = ψs.map some → ∃ ψ, R = some ψ ∧ text ψ = hd ++ ψs.flatMap text
theorem facts_nil {V : Option (T × T)} {m : M} {ψ : T} {hd : List UInt8} (h : text ψ = hd) : PutFacts V [] m hd (some ψ) :=
  ⟨(fun f hf => by cases hf), (fun ψs h' => by
    have : ψs = [] := by simpa using h'.symm
    subst this
    exact ⟨ψ, rfl, by simpa using h⟩)⟩
theorem facts_one {V : Option (T × T)} {m : M} {f : T} {c : T → T} {hd : List UInt8} (h : ∀ a, text (c a) = hd ++ text a) : PutFacts V [f] m hd ((putG V f m).map c) := by
  refine ⟨fun g hg hn => ?_, fun ψs h' => ?_⟩
  · obtain rfl : g = f := by simpa using hg
    rw [hn]; rfl
  · have hl : ψs.length = 1 := by have := congrArg List.length h'; simpa using this.symm
    obtain ⟨a, rfl⟩ := List.length_eq_one_iff.1 hl
    have : putG V f m = some a := by simpa using h'
    exact ⟨c a, by rw [this]; rfl, by simp [h a]⟩
theorem facts_two {V : Option (T × T)} {m : M} {f g : T} {c : T → T → T} {hd : List UInt8} (h : ∀ a b, text (c a b) = hd ++ (text a ++ text b)) : PutFacts V [f, g] m hd ((putG V f m).bind fun a => (putG V g m).map fun b => c a b) := by
  refine ⟨fun k hk hn => ?_, fun ψs h' => ?_⟩
  · rcases (by simpa using hk : k = f ∨ k = g) with rfl | rfl
    · rw [hn]; rfl
    · rw [hn]
      cases putG V f m <;> rfl
  · have hl : ψs.length = 2 := by have := congrArg List.length h'; simpa using this.symm
    obtain ⟨a, b, rfl⟩ : ∃ a b, ψs = [a, b] := by match ψs, hl with | [a, b], _ => exact ⟨a, b, rfl⟩
    have h1 : putG V f m = some a ∧ putG V g m = some b := by simpa using h'
    exact ⟨c a b, by rw [h1.1, h1.2]; rfl, by simp [h a b]⟩
/-- Where neither a view nor a quantifier is met. -/
theorem facts_plain {V : Option (T × T)} (m : M) : ∀ φ : T, isQu φ.op = false → (φ.op = 80 → V = none) → (φ.op = 69 → V = none) → PutFacts V φ.ps m (φ.op :: φ.vs.map fun x => vb (m x)) (putG V φ m)
  | .lit _, _, _, _ => facts_nil (by simp [text, T.op, T.vs])
  | .set x, _, h, _ => by
    obtain rfl := h rfl
    exact facts_nil (by simp [text, T.op, T.vs])
  | .rel false x y, _, _, _ => facts_nil (by simp [text, T.op, T.vs])
  | .rel true x y, _, _, h => by
    obtain rfl := h rfl
    exact facts_nil (by simp [text, T.op, T.vs])
  | .neg f, _, _, _ => facts_one (fun a => by simp [text, T.op, T.vs])
  | .bin o f g, _, _, _ => facts_two (fun a b => by simp [text, T.op, T.vs])
  | .qu q v f, h, _, _ => absurd h (by show ¬ isQu q.byte = false; unfold isQu; rw [quOf_byte]; simp)
theorem facts_qu {V : Option (T × T)} (m : M) (q : Q) (v u : Fin 4) (f : T) (hf : fresh v (free f) m = some u) : PutFacts V [f] (fput m v u) [q.byte, vb u] (putG V (.qu q v f) m) := by
  have : putG V (.qu q v f) m = (putG V f (fput m v u)).map (.qu q u) := by simp [putG, hf]
  rw [this]
  exact facts_one (fun a => by simp [text])
theorem putG_qu_none {V : Option (T × T)} {m : M} {q : Q} {v : Fin 4} {f : T} (hf : fresh v (free f) m = none) : putG V (.qu q v f) m = none := by simp [putG, hf]
/-- The variables that are taken by the first i ones. -/
def tkTo (s : Nat) (m : M) (v : Fin 4) : Nat → Fin 4 → Bool
  | 0, _ => false
  | i + 1, w => tkTo s m v i w || (decide (s / 2 ^ i % 2 = 1) && decide (i ≠ v.val) && (if h : i < 4 then decide (m ⟨i, h⟩ = w) else false))
theorem tkTo_four (s : Nat) (m : M) (v w : Fin 4) : tkTo s m v 4 w = taken s m v w := by
  have hb : ∀ i, s.testBit i = decide (s / 2 ^ i % 2 = 1) := fun i => Nat.testBit_eq_decide_div_mod_eq
  have e0 : decide ((0 : Nat) ≠ v.val) = decide ((0 : Fin 4) ≠ v) := by revert v; decide
  have e1 : decide ((1 : Nat) ≠ v.val) = decide ((1 : Fin 4) ≠ v) := by revert v; decide
  have e2 : decide ((2 : Nat) ≠ v.val) = decide ((2 : Fin 4) ≠ v) := by revert v; decide
  have e3 : decide ((3 : Nat) ≠ v.val) = decide ((3 : Fin 4) ≠ v) := by revert v; decide
  unfold taken
  rw [hb, hb, hb, hb, ← e0, ← e1, ← e2, ← e3]
  simp [tkTo]
def firstFree (t : Fin 4 → Bool) : Int := if t 0 then if t 1 then if t 2 then if t 3 then -1 else 3 else 2 else 1 else 0
theorem fresh_taken {v : Fin 4} {s : Nat} {m : M} (h : taken s m v v = true) : (fresh v s m = none ∧ firstFree (taken s m v) = -1) ∨ ∃ u : Fin 4, fresh v s m = some u ∧ firstFree (taken s m v) = (u.val : Int) := by
  unfold fresh firstFree
  rw [if_pos h]
  cases h0 : taken s m v 0
  · exact .inr ⟨0, by simp, by simp⟩
  · cases h1 : taken s m v 1
    · exact .inr ⟨1, by simp, by simp⟩
    · cases h2 : taken s m v 2
      · exact .inr ⟨2, by simp, by simp⟩
      · cases h3 : taken s m v 3
        · exact .inr ⟨3, by simp, by simp; rfl⟩
        · exact .inl ⟨by simp, by simp⟩
theorem fresh_kept {v : Fin 4} {s : Nat} {m : M} (h : taken s m v v = false) : fresh v s m = some v := by
  unfold fresh
  rw [if_neg (by simp [h])]
end Fm

/-- Four cells. -/
def c4 (f : Fin 4 → Value) : Array Value := #[f 0, f 1, f 2, f 3]
section
variable {w : World} {b : Nat} {f : Fin 4 → Value} {t : TypeId}
theorem c4_cell (h : w.heap[b]? = some (.cells (c4 f) t (0, 0))) (x : Fin 4) : w.cell? ⟨b, x.val, none⟩ = some (f x) := by
  have e : w.cell? ⟨b, x.val, none⟩ = (c4 f)[x.val]? := by simp [World.cell?, h]
  rw [e]
  match x with
  | 0 => rfl
  | 1 => rfl
  | 2 => rfl
  | 3 => rfl
theorem c4_frozen (h : w.heap[b]? = some (.cells (c4 f) t (0, 0))) (i : Nat) : w.frozen? ⟨b, i, none⟩ = false := by simp [World.frozen?, h]
theorem c4_set (h : w.heap[b]? = some (.cells (c4 f) t (0, 0))) (x : Fin 4) (v : Value) : (w.setCell ⟨b, x.val, none⟩ v).heap[b]? = some (.cells (c4 fun y => if y = x then v else f y) t (0, 0)) := by
  match x with
  | 0 => show (w.setCell ⟨b, 0, none⟩ v).heap[b]? = _; simp [World.setCell, Array.getElem?_modify, h, c4]
  | 1 => show (w.setCell ⟨b, 1, none⟩ v).heap[b]? = _; simp [World.setCell, Array.getElem?_modify, h, c4]
  | 2 => show (w.setCell ⟨b, 2, none⟩ v).heap[b]? = _; simp [World.setCell, Array.getElem?_modify, h, c4]
  | 3 => show (w.setCell ⟨b, 3, none⟩ v).heap[b]? = _; simp [World.setCell, Array.getElem?_modify, h, c4]
end
/-- The byte of the variable that stands in place of one. -/
def bAt (m : Fm.M) (x : Fin 4) : Int := ((97 + (m x).val : Nat) : Int)
theorem bAt_sub (m : Fm.M) (x : Fin 4) : IntKind.u8.wrap (bAt m x - 97) = ((m x).val : Int) := vb_sub2 (m x)
theorem bAt_range (m : Fm.M) (x : Fin 4) : 97 ≤ bAt m x ∧ bAt m x ≤ 100 := by unfold bAt; omega
theorem bAt_vb (m : Fm.M) (x : Fin 4) : bAt m x = ((Fm.vb (m x)).toNat : Int) := by unfold bAt; rw [vb_nat]; omega
def arrC (m : Fm.M) : Array Value := c4 fun x => .int .u8 (bAt m x)
def arrV (m : Fm.M) : Value := .agg (arrC m)

/-- The slice v of the world w is the call's own since block B, and holds the bytes L. -/
structure OwnB (B : Nat) (w : World) (v : Value) (L : List Int) : Prop where
  own : w.ownsRow B 5 1 v L.length (L.map (Value.int .u8))
  ne : v ≠ .slice none 0 0
  low : B ≤ w.heap.size
theorem OwnB.cells {B : Nat} {w : World} {v : Value} {L : List Int} (h : OwnB B w v L) :
    ∃ g cap, v = .slice (some ⟨g, 0, none⟩) L.length cap ∧ B ≤ g ∧ g < w.heap.size ∧ L.length ≤ cap ∧ cap ≤ maxLen ∧ ∀ j, j < L.length → w.cell? ⟨g, j, none⟩ = some (.int .u8 (L.getD j 0)) := by
  rcases h.own.2 with ⟨h1, h2⟩ | ⟨g, cap, cur, rfl, hb, hg, hnc, hcm, hcs, htake⟩
  · exact absurd h1 h.ne
  · refine ⟨g, cap, rfl, hb, (h.own.lt g rfl).2, hnc, hcm, fun j hj => ?_⟩
    rw [h.own.cellAt j (by omega)]
    simp [hj]
theorem OwnB.lit (B : Nat) (w : World) (b : Nat) (hb : w.heap.size = b) (hB : B ≤ w.heap.size) : OwnB B (w.alloc (.cells #[] 5)) (.slice (some ⟨b, 0, none⟩) 0 0) [] := by
  subst hb
  exact ⟨World.ownsRow_made w #[] 0 hB (by decide) rfl, by simp, by simp; omega⟩
theorem OwnB.kept {B : Nat} {w w' : World} {v : Value} {L : List Int} (h : OwnB B w v L) (hb : ∀ k, v.ownBlock = some k → k < w.heap.size → w'.heap[k]? = w.heap[k]?) (hs : w.heap.size ≤ w'.heap.size) : OwnB B w' v L := by
  refine ⟨⟨h.own.1, ?_⟩, h.ne, Nat.le_trans h.low hs⟩
  rcases h.own.2 with hn | ⟨g, cap, cur, rfl, hb', hgg, rest⟩
  · exact .inl hn
  · exact .inr ⟨g, cap, cur, rfl, hb', by rw [hb g rfl (Array.getElem?_eq_some_iff.1 hgg).1]; exact hgg, rest⟩
theorem OwnB.below {B : Nat} {w w' : World} {v : Value} {L : List Int} (h : OwnB B w v L) (hb : Below w.heap.size w w') : OwnB B w' v L := h.kept (fun k _ hk => hb.block k hk) hb.size
/-- One byte is appended to a slice of the call's own. -/
theorem wpList_ownB1 {ops : Array Oper} {rest : List Oper} {o : Oper} {a : Act} {Q : Exit → Act → World → Prop} {B : Nat} {w : World} {v : Value} {L : List Int}
    (hown : OwnB B w v L) (hL : L.length ≤ 2000000) (hgd : o.guard = none) (s x : Operand)
    (ho : o.op = .call { callee := .builtin .append, args := #[s, x], argTypes := #[22, 22] }) (y : Int) (b : Nat) (hb : w.heap.size = b)
    (hs : a.eval s = v) (hx : a.eval x = .slice (some ⟨b, 0, none⟩) 1 1)
    (h : ∀ v' w', OwnB B w' v' (L ++ [y]) → w.grownBy w' v.ownBlock → wpList Tryd.prog ops Q rest (a.put o.dst v') w') :
    wpList Tryd.prog ops Q (o :: rest) a (w.alloc (.cells #[.int .u8 y] 5)) := by
  subst hb
  obtain ⟨i, hi, hz, h1, h2⟩ := info_parts info_u8
  have hbase : B ≤ w.heap.size := hown.low
  refine wpList_append_own _ hgd s x 22 ho B 5 i (.int .u8 0) 1 1 Tryd.underlying22 hi hz h1 h2 rfl (by decide) v L.length _ hs (hown.own.alloc _) ⟨w.heap.size, 0, none⟩ 1 1 [.int .u8 y] hx rfl ?_ ?_ ?_ ?_ ?_ ?_
  · intro j u hj
    match j, hj with
    | 0, hj => simp at hj; subst hj; simp [Addr.add]
  · intro u hu
    simp at hu; subst hu; rfl
  · unfold maxLen; omega
  · omega
  · simp; omega
  · intro v' w' h2 h3 h4
    refine h v' w' ⟨?_, ?_, ?_⟩ ?_
    · simpa using h2
    · intro e
      exact hown.ne (h4.1 e).1
    · have := h3.size
      simp at this
      omega
    · refine ⟨h3.os, h3.tape, h3.output, ?_, fun k hk hne => ?_⟩
      · have := h3.size
        simp at this
        omega
      · rw [h3.block k (by simp; omega) hne]
        exact Below.heap_alloc _ _ _ hk
/-- The text of a slice of bytes. -/
theorem conv_bytes (w : World) (g cap : Nat) (l : List UInt8) (h : ∀ j (hj : j < l.length), w.cell? ⟨g, j, none⟩ = some (.int .u8 (l[j].toNat : Int))) :
    (convert 22 9 (.slice (some ⟨g, 0, none⟩) l.length cap)).run Tryd.prog w = .ok (.string ⟨l.toArray⟩) w :=
  run_convert_bytes_back w 22 9 5 ⟨g, 0, none⟩ cap l Tryd.underlying22 Tryd.underlying5 Tryd.underlying9 (fun j hj => by
    have e : (⟨g, 0, none⟩ : Addr).add j = ⟨g, j, none⟩ := by unfold Addr.add; split <;> simp_all
    rw [e]; exact h j hj)
/-- The first cell that is false. -/
theorem index_bools (t : Fin 4 → Bool) (x : Nat) (ty : TypeId) (w : World) (h : w.heap[x]? = some (.cells (c4 fun j => .bool (t j)) ty (0, 0))) :
    Calls Tryd.prog 163 #[.slice (some ⟨x, 0, none⟩) 4 4, .bool false] w fun e w' => e = .returned (.int .i64 (Fm.firstFree t)) ∧ w' = w := by
  have d0 : w.cell? ⟨x, 0, none⟩ = some (.bool (t 0)) := c4_cell h 0
  have d1 : w.cell? ⟨x, 1, none⟩ = some (.bool (t 1)) := c4_cell h 1
  have d2 : w.cell? ⟨x, 2, none⟩ = some (.bool (t 2)) := c4_cell h 2
  have d3 : w.cell? ⟨x, 3, none⟩ = some (.bool (t 3)) := c4_cell h 3
  unfold Fm.firstFree
  generalize t 0 = t0 at *
  generalize t 1 = t1 at *
  generalize t 2 = t2 at *
  generalize t 3 = t3 at *
  clear h
  obtain ⟨RES, hres⟩ : ∃ r : Int, (if t0 then if t1 then if t2 then if t3 then -1 else 3 else 2 else 1 else 0) = r := ⟨_, rfl⟩
  rw [hres]
  have HR := Lib.hid hres
  clear hres
  go_enter Tryd.func163, Tryd.ntmps163
  go_wp2_with fail
  go_loop [8] (fun i => i = .int .i64 0 ∨ (i = .int .i64 1 ∧ Hid (t0 = true)) ∨ (i = .int .i64 2 ∧ Hid (t0 = true ∧ t1 = true)) ∨ (i = .int .i64 3 ∧ Hid (t0 = true ∧ t1 = true ∧ t2 = true)) ∨ (i = .int .i64 4 ∧ Hid (t0 = true ∧ t1 = true ∧ t2 = true ∧ t3 = true))) (fun i => 4 - (intOf i).toNat)
  case atStart => exact .inl rfl
  case round =>
    rcases hrel with rfl | ⟨rfl, H⟩ | ⟨rfl, H⟩ | ⟨rfl, H⟩ | ⟨rfl, H⟩
    · cases t0
      · have HE : Hid ((0 : Int) = RES) := by show _ = _; rw [← HR.out]; simp
        go_wp2_with fail
        go_ret
        exact ⟨ret_int HE.out, rfl⟩
      · go_wp2_with fail
        go_round
        case rel => exact .inr (.inl ⟨rfl, (by first | rfl | exact True.intro)⟩)
        case measure => simp [intOf]
    · cases t1
      · have HE : Hid ((1 : Int) = RES) := by show _ = _; rw [← HR.out, H.out]; simp
        go_wp2_with fail
        go_ret
        exact ⟨ret_int HE.out, rfl⟩
      · go_wp2_with fail
        go_round
        case rel => exact .inr (.inr (.inl ⟨rfl, H.out, (by first | rfl | exact True.intro)⟩))
        case measure => simp [intOf]
    · cases t2
      · have HE : Hid ((2 : Int) = RES) := by show _ = _; rw [← HR.out, H.out.1, H.out.2]; simp
        go_wp2_with fail
        go_ret
        exact ⟨ret_int HE.out, rfl⟩
      · go_wp2_with fail
        go_round
        case rel => exact .inr (.inr (.inr (.inl ⟨rfl, H.out.1, H.out.2, (by first | rfl | exact True.intro)⟩)))
        case measure => simp [intOf]
    · cases t3
      · have HE : Hid ((3 : Int) = RES) := by show _ = _; rw [← HR.out, H.out.1, H.out.2.1, H.out.2.2]; simp
        go_wp2_with fail
        go_ret
        exact ⟨ret_int HE.out, rfl⟩
      · go_wp2_with fail
        go_round
        case rel => exact .inr (.inr (.inr (.inr ⟨rfl, H.out.1, H.out.2.1, H.out.2.2, (by first | rfl | exact True.intro)⟩)))
        case measure => simp [intOf]
    · have HE : Hid ((-1 : Int) = RES) := by show _ = _; rw [← HR.out, H.out.1, H.out.2.1, H.out.2.2.1, H.out.2.2.2]; simp
      go_wp2_with fail
      go_ret
      exact ⟨ret_int HE.out, rfl⟩
end Go.Proofs.YtjepegkbbbebkaaDoor
/- The reference's l11Name, l11Images, l11Fresh. No condition. -/
namespace Go.Proofs.YtjepegkbbbebkaaDoor
open Go.RowKit
set_option linter.unusedVariables false

namespace Fm
def mAt (m : M) (i : Nat) : Nat := if h : i < 4 then (m ⟨i, h⟩).val else 0
def imgTo (s : Nat) (m : M) : Nat → Nat
  | 0 => 0
  | i + 1 => if s / 2 ^ i % 2 = 1 then imgTo s m i ||| 1 <<< mAt m i else imgTo s m i
theorem mAt_lt (m : M) (i : Nat) : mAt m i < 4 := by unfold mAt; split <;> omega
theorem imgTo_lt (s : Nat) (m : M) : ∀ i, imgTo s m i < 16
  | 0 => (by decide : 0 < 16)
  | i + 1 => by
    unfold imgTo
    split
    · exact or_lt (imgTo_lt s m i) (bit_lt ⟨mAt m i, mAt_lt m i⟩)
    · exact imgTo_lt s m i
theorem testBit_div (s i : Nat) : s.testBit i = decide (s / 2 ^ i % 2 = 1) := Nat.testBit_eq_decide_div_mod_eq
theorem imgTo_has (s : Nat) (m : M) (w : Fin 4) : ∀ i, i ≤ 4 → ((imgTo s m i).testBit w.val = true ↔ ∃ u : Fin 4, u.val < i ∧ s.testBit u.val = true ∧ m u = w)
  | 0, _ => by simp [imgTo]
  | i + 1, hi => by
    have ih := imgTo_has s m w i (by omega)
    have hm : mAt m i = (m ⟨i, by omega⟩).val := by unfold mAt; rw [dif_pos (by omega)]
    unfold imgTo
    by_cases hb : s / 2 ^ i % 2 = 1
    · rw [if_pos hb, Nat.testBit_or, Bool.or_eq_true, ih, hm, bit_has, decide_eq_true_iff]
      constructor
      · rintro (⟨u, h1, h2, h3⟩ | h)
        · exact ⟨u, by omega, h2, h3⟩
        · exact ⟨⟨i, by omega⟩, by simp, by rw [testBit_div]; simpa using hb, h⟩
      · rintro ⟨u, h1, h2, h3⟩
        by_cases hu : u.val < i
        · exact .inl ⟨u, hu, h2, h3⟩
        · have : u = ⟨i, by omega⟩ := Fin.ext (by simp; omega)
          exact .inr (by rw [← this]; exact h3)
    · rw [if_neg hb, ih]
      constructor
      · rintro ⟨u, h1, h2, h3⟩; exact ⟨u, by omega, h2, h3⟩
      · rintro ⟨u, h1, h2, h3⟩
        refine ⟨u, ?_, h2, h3⟩
        by_cases hu : u.val = i
        · rw [testBit_div, hu] at h2; exact absurd (by simpa using h2) hb
        · omega
/-- The images that are taken. -/
theorem img_taken (s : Nat) (hs : s < 16) (m : M) (v w : Fin 4) : (imgTo (s &&& (15 ^^^ 1 <<< v.val)) m 4).testBit w.val = taken s m v w := by
  rw [Bool.eq_iff_iff, imgTo_has _ _ _ 4 (Nat.le_refl _), taken_iff]
  constructor
  · rintro ⟨u, _, h2, h3⟩
    rw [has_rem s hs] at h2
    simp at h2
    exact ⟨u, h2.1, fun e => h2.2 e.symm, h3⟩
  · rintro ⟨u, h1, h2, h3⟩
    refine ⟨u, u.isLt, ?_, h3⟩
    rw [has_rem s hs, h1]
    simpa using fun e => h2 e.symm
def freshI (v : Fin 4) (s : Nat) (m : M) : Int := match fresh v s m with | none => -1 | some u => (u.val : Int)
end Fm

def mapV (m : Fm.M) : Value := .agg #[.int .i64 (((m 0).val : Nat) : Int), .int .i64 (((m 1).val : Nat) : Int), .int .i64 (((m 2).val : Nat) : Int), .int .i64 (((m 3).val : Nat) : Int)]
def mapC (m : Fm.M) : Array Value := #[.int .i64 (((m 0).val : Nat) : Int), .int .i64 (((m 1).val : Nat) : Int), .int .i64 (((m 2).val : Nat) : Int), .int .i64 (((m 3).val : Nat) : Int)]
theorem map_cell (m : Fm.M) (w : World) (b i : Nat) (t : TypeId) (h : w.heap[b]? = some (.cells (mapC m) t (0, 0))) (hi : i < 4) : w.cell? ⟨b, i, none⟩ = some (.int .i64 ((Fm.mAt m i : Nat) : Int)) := by
  have e : w.cell? ⟨b, i, none⟩ = (mapC m)[i]? := by simp [World.cell?, h]
  rw [e]
  rcases (show i = 0 ∨ i = 1 ∨ i = 2 ∨ i = 3 by omega) with rfl | rfl | rfl | rfl <;> rfl

theorem l11Name_any (v : Fin 4) (w : World) : Calls Tryd.prog 164 #[.int .i64 ((v.val : Nat) : Int)] w fun e w' => e = .returned (.string ⟨#[Fm.vb v]⟩) ∧ w' = w := by
  match v with
  | 0 => 
    go_enter Tryd.func164, Tryd.ntmps164
    go_wp2_with fail
    go_ret
    exact ⟨rfl, rfl⟩
  | 1 => 
    go_enter Tryd.func164, Tryd.ntmps164
    go_wp2_with fail
    go_ret
    exact ⟨rfl, rfl⟩
  | 2 => 
    go_enter Tryd.func164, Tryd.ntmps164
    go_wp2_with fail
    go_ret
    exact ⟨rfl, rfl⟩
  | 3 => 
    go_enter Tryd.func164, Tryd.ntmps164
    go_wp2_with fail
    go_ret
    exact ⟨rfl, rfl⟩
theorem p_and1 (a : Nat) (ha : a < 9223372036854775808) : bits .and .i64 (a : Int) 1 = ((a % 2 : Nat) : Int) := by
  have ho : ∀ b : Nat, b < 9223372036854775808 → (BitVec.ofInt 64 (b : Int)).toNat = b := fun b hb => by
    rw [BitVec.ofInt_natCast, BitVec.toNat_ofNat]; exact Nat.mod_eq_of_lt (by omega)
  show IntKind.i64.wrap ((BitVec.ofInt 64 (a : Int) &&& BitVec.ofInt 64 ((1 : Nat) : Int)).toNat : Int) = _
  rw [BitVec.toNat_and, ho a ha, ho 1 (by omega), Nat.and_one_is_mod]
  exact IntWalk.i64_in _ (by omega)
theorem p_bits (fr c : Nat) (hf : fr < 16) : (bits .and .i64 ((fr : Int) / (c : Int)) 1 = 0 ∧ ¬ fr / c % 2 = 1) ∨ (bits .and .i64 ((fr : Int) / (c : Int)) 1 = 1 ∧ fr / c % 2 = 1) := by
  have h := p_and1 (fr / c) (Nat.lt_of_le_of_lt (Nat.div_le_self _ _) (by omega))
  rw [Int.natCast_ediv] at h
  rcases (show fr / c % 2 = 0 ∨ fr / c % 2 = 1 by omega) with h0 | h0
  · rw [h0] at h
    exact .inl ⟨h, by omega⟩
  · rw [h0] at h
    exact .inr ⟨h, h0⟩
theorem mapC_cell (m : Fm.M) (w : World) (b : Nat) (t : TypeId) (h : w.heap[b]? = some (.cells (mapC m) t (0, 0))) (x : Fin 4) : w.cell? ⟨b, x.val, none⟩ = some (.int .i64 (((m x).val : Nat) : Int)) := c4_cell (f := fun x => .int .i64 (((m x).val : Nat) : Int)) h x
theorem img_no {s i : Nat} {m : Fm.M} (h : ¬ s / 2 ^ i % 2 = 1) : Fm.imgTo s m (i + 1) = Fm.imgTo s m i := by
  show (if s / 2 ^ i % 2 = 1 then _ else _) = _
  rw [if_neg h]
theorem img_yes {s i : Nat} {m : Fm.M} (hi : i < 4) (h : s / 2 ^ i % 2 = 1) : bits .or .i64 ((Fm.imgTo s m i : Nat) : Int) ((1 <<< (m ⟨i, hi⟩).val : Nat) : Int) = ((Fm.imgTo s m (i + 1) : Nat) : Int) := by
  rw [or_i64 _ _ (Fm.imgTo_lt s m i) (Fm.bit_lt _)]
  have : Fm.imgTo s m (i + 1) = Fm.imgTo s m i ||| 1 <<< (m ⟨i, hi⟩).val := by
    show (if s / 2 ^ i % 2 = 1 then _ else _) = _
    rw [if_pos h]
    unfold Fm.mAt
    rw [dif_pos hi]
  rw [this]
set_option maxRecDepth 100000 in
theorem l11Images_any (s : Nat) (hs : s < 16) (m : Fm.M) (w : World) : Calls Tryd.prog 193 #[.int .i64 (s : Int), mapV m] w fun e w' => e = .returned (.int .i64 ((Fm.imgTo s m 4 : Nat) : Int)) ∧ Below w.heap.size w w' := by
  obtain ⟨W, hW⟩ : ∃ W, w.alloc (.cells (mapC m) 144) = W := ⟨_, rfl⟩
  have HM : Hid (W.heap[w.heap.size]? = some (.cells (mapC m) 144 (0, 0)) ∧ Below w.heap.size w W) := by
    subst hW
    exact ⟨heap_alloc_new w _, (Below.refl _ _).alloc (Nat.le_refl _) _⟩
  have d0 : W.cell? ⟨w.heap.size, 0, none⟩ = some (.int .i64 (((m 0).val : Nat) : Int)) := mapC_cell m W _ _ HM.out.1 0
  have d1 : W.cell? ⟨w.heap.size, 1, none⟩ = some (.int .i64 (((m 1).val : Nat) : Int)) := mapC_cell m W _ _ HM.out.1 1
  have d2 : W.cell? ⟨w.heap.size, 2, none⟩ = some (.int .i64 (((m 2).val : Nat) : Int)) := mapC_cell m W _ _ HM.out.1 2
  have d3 : W.cell? ⟨w.heap.size, 3, none⟩ = some (.int .i64 (((m 3).val : Nat) : Int)) := mapC_cell m W _ _ HM.out.1 3
  have Y0 := Lib.hid (fun h => img_yes (s := s) (m := m) (i := 0) (by decide) h)
  have Y1 := Lib.hid (fun h => img_yes (s := s) (m := m) (i := 1) (by decide) h)
  have Y2 := Lib.hid (fun h => img_yes (s := s) (m := m) (i := 2) (by decide) h)
  have Y3 := Lib.hid (fun h => img_yes (s := s) (m := m) (i := 3) (by decide) h)
  have N0 := Lib.hid (fun h => img_no (s := s) (m := m) (i := 0) h)
  have N1 := Lib.hid (fun h => img_no (s := s) (m := m) (i := 1) h)
  have N2 := Lib.hid (fun h => img_no (s := s) (m := m) (i := 2) h)
  have N3 := Lib.hid (fun h => img_no (s := s) (m := m) (i := 3) h)
  have HS := Lib.hid (fun v => shl_i64 v)
  have Z0 : Hid (Fm.imgTo s m 0 = 0) := rfl
  unfold mapC at hW
  have HW := Lib.hid hW
  clear hW
  generalize hI1 : Fm.imgTo s m 1 = I1 at *
  generalize hI2 : Fm.imgTo s m 2 = I2 at *
  generalize hI3 : Fm.imgTo s m 3 = I3 at *
  generalize hI4 : Fm.imgTo s m 4 = I4 at *
  clear hI1 hI2 hI3 hI4
  unfold mapV
  go_enter Tryd.func193, Tryd.ntmps193
  go_upto_region 1 with fail
  rw [HW.out]
  go_wp2_with fail
  go_loop [6, 5] (fun i o => (i = .int .i64 0 ∧ o = .int .i64 0) ∨ (i = .int .i64 1 ∧ o = .int .i64 (I1 : Int)) ∨ (i = .int .i64 2 ∧ o = .int .i64 (I2 : Int)) ∨ (i = .int .i64 3 ∧ o = .int .i64 (I3 : Int)) ∨ (i = .int .i64 4 ∧ o = .int .i64 (I4 : Int))) (fun i _ => 4 - (intOf i).toNat)
  case atStart => exact .inl ⟨rfl, rfl⟩
  case round =>
    rcases hrel with ⟨rfl, rfl⟩ | ⟨rfl, rfl⟩ | ⟨rfl, rfl⟩ | ⟨rfl, rfl⟩ | ⟨rfl, rfl⟩
    · rcases p_bits s 1 hs with ⟨hb, hb2⟩ | ⟨hb, hb2⟩
      · have hb : bits .and .i64 (s : Int) 1 = 0 := by simpa using hb
        have HN := Lib.hid (N0.out (by simpa using hb2))
        clear hb2
        go_wp2_with fail
        go_round
        case rel => exact .inr (.inl ⟨rfl, by rw [HN.out]; rw [Z0.out]; rfl⟩)
        case measure => simp [intOf]
      · have hb : bits .and .i64 (s : Int) 1 = 1 := by simpa using hb
        have hor := Y0.out (by simpa using hb2)
        have hsh := HS.out (m 0)
        have hm4 := (m 0).isLt
        have e0 : (m ⟨0, by decide⟩) = m 0 := rfl
        replace hor : bits .or .i64 0 ((1 <<< (m 0).val : Nat) : Int) = ((I1 : Nat) : Int) := by rw [e0, Z0.out] at hor; exact hor
        clear hb2
        generalize (1 <<< (m 0).val) = A at *
        generalize (m 0).val = k at *
        have hkI : (0 : Int) ≤ (k : Int) ∧ (k : Int) < 4 := by omega
        have hcv : IntKind.u64.wrap (k : Int) = k := IntWalk.u64_in _ (by omega)
        go_wp2_with fail
        go_round
        case rel => exact .inr (.inl ⟨rfl, rfl⟩)
        case measure => simp [intOf]
    · rcases p_bits s 2 hs with ⟨hb, hb2⟩ | ⟨hb, hb2⟩
      · have hb : bits .and .i64 ((s : Int) / 2) 1 = 0 := by simpa using hb
        have HN := Lib.hid (N1.out (by simpa using hb2))
        clear hb2
        go_wp2_with fail
        go_round
        case rel => exact .inr (.inr (.inl ⟨rfl, by rw [HN.out]⟩))
        case measure => simp [intOf]
      · have hb : bits .and .i64 ((s : Int) / 2) 1 = 1 := by simpa using hb
        have hor := Y1.out (by simpa using hb2)
        have hsh := HS.out (m 1)
        have hm4 := (m 1).isLt
        have e0 : (m ⟨1, by decide⟩) = m 1 := rfl
        rw [e0] at hor
        clear hb2
        generalize (1 <<< (m 1).val) = A at *
        generalize (m 1).val = k at *
        have hkI : (0 : Int) ≤ (k : Int) ∧ (k : Int) < 4 := by omega
        have hcv : IntKind.u64.wrap (k : Int) = k := IntWalk.u64_in _ (by omega)
        go_wp2_with fail
        go_round
        case rel => exact .inr (.inr (.inl ⟨rfl, rfl⟩))
        case measure => simp [intOf]
    · rcases p_bits s 4 hs with ⟨hb, hb2⟩ | ⟨hb, hb2⟩
      · have hb : bits .and .i64 ((s : Int) / 4) 1 = 0 := by simpa using hb
        have HN := Lib.hid (N2.out (by simpa using hb2))
        clear hb2
        go_wp2_with fail
        go_round
        case rel => exact .inr (.inr (.inr (.inl ⟨rfl, by rw [HN.out]⟩)))
        case measure => simp [intOf]
      · have hb : bits .and .i64 ((s : Int) / 4) 1 = 1 := by simpa using hb
        have hor := Y2.out (by simpa using hb2)
        have hsh := HS.out (m 2)
        have hm4 := (m 2).isLt
        have e0 : (m ⟨2, by decide⟩) = m 2 := rfl
        rw [e0] at hor
        clear hb2
        generalize (1 <<< (m 2).val) = A at *
        generalize (m 2).val = k at *
        have hkI : (0 : Int) ≤ (k : Int) ∧ (k : Int) < 4 := by omega
        have hcv : IntKind.u64.wrap (k : Int) = k := IntWalk.u64_in _ (by omega)
        go_wp2_with fail
        go_round
        case rel => exact .inr (.inr (.inr (.inl ⟨rfl, rfl⟩)))
        case measure => simp [intOf]
    · rcases p_bits s 8 hs with ⟨hb, hb2⟩ | ⟨hb, hb2⟩
      · have hb : bits .and .i64 ((s : Int) / 8) 1 = 0 := by simpa using hb
        have HN := Lib.hid (N3.out (by simpa using hb2))
        clear hb2
        go_wp2_with fail
        go_round
        case rel => exact .inr (.inr (.inr (.inr (⟨rfl, by rw [HN.out]⟩))))
        case measure => simp [intOf]
      · have hb : bits .and .i64 ((s : Int) / 8) 1 = 1 := by simpa using hb
        have hor := Y3.out (by simpa using hb2)
        have hsh := HS.out (m 3)
        have hm4 := (m 3).isLt
        have e0 : (m ⟨3, by decide⟩) = m 3 := rfl
        rw [e0] at hor
        clear hb2
        generalize (1 <<< (m 3).val) = A at *
        generalize (m 3).val = k at *
        have hkI : (0 : Int) ≤ (k : Int) ∧ (k : Int) < 4 := by omega
        have hcv : IntKind.u64.wrap (k : Int) = k := IntWalk.u64_in _ (by omega)
        go_wp2_with fail
        go_round
        case rel => exact .inr (.inr (.inr (.inr (⟨rfl, rfl⟩))))
        case measure => simp [intOf]
    · go_wp2_with fail
      go_ret
      exact ⟨rfl, HM.out.2⟩
/-- Whether a variable is among the images, as the tests say it. -/
theorem img_bit (s : Nat) (hs : s < 16) (m : Fm.M) (v u : Fin 4) : (Fm.imgTo (s &&& (15 ^^^ 1 <<< v.val)) m 4 / 2 ^ u.val % 2 = 1) ↔ Fm.taken s m v u = true := by
  rw [← Fm.img_taken s hs m v u, Fm.testBit_div, decide_eq_true_iff]
theorem freshI_kept {v : Fin 4} {s : Nat} {m : Fm.M} (h : Fm.taken s m v v = false) : Fm.freshI v s m = (v.val : Int) := by
  unfold Fm.freshI; rw [Fm.fresh_kept h]
theorem freshI_first {v : Fin 4} {s : Nat} {m : Fm.M} (h : Fm.taken s m v v = true) : Fm.freshI v s m = Fm.firstFree (Fm.taken s m v) := by
  unfold Fm.freshI
  rcases Fm.fresh_taken h with ⟨h1, h2⟩ | ⟨u, h1, h2⟩
  · rw [h1, h2]
  · rw [h1, h2]
set_option maxRecDepth 100000 in
theorem l11Fresh_any (v : Fin 4) (s : Nat) (hs : s < 16) (m : Fm.M) (w : World) : Calls Tryd.prog 165 #[.int .i64 ((v.val : Nat) : Int), .int .i64 (s : Int), mapV m] w fun e w' => e = .returned (.int .i64 (Fm.freshI v s m)) ∧ Below w.heap.size w w' := by
  obtain ⟨W, hW⟩ : ∃ W, w.alloc (.cells (mapC m) 144) = W := ⟨_, rfl⟩
  have HM : Hid (W.heap[w.heap.size]? = some (.cells (mapC m) 144 (0, 0)) ∧ Below w.heap.size w W) := by
    subst hW
    exact ⟨heap_alloc_new w _, (Below.refl _ _).alloc (Nat.le_refl _) _⟩
  have d0 : W.cell? ⟨w.heap.size, 0, none⟩ = some (.int .i64 (((m 0).val : Nat) : Int)) := mapC_cell m W _ _ HM.out.1 0
  have d1 : W.cell? ⟨w.heap.size, 1, none⟩ = some (.int .i64 (((m 1).val : Nat) : Int)) := mapC_cell m W _ _ HM.out.1 1
  have d2 : W.cell? ⟨w.heap.size, 2, none⟩ = some (.int .i64 (((m 2).val : Nat) : Int)) := mapC_cell m W _ _ HM.out.1 2
  have d3 : W.cell? ⟨w.heap.size, 3, none⟩ = some (.int .i64 (((m 3).val : Nat) : Int)) := mapC_cell m W _ _ HM.out.1 3
  have hlt16 : s &&& (15 ^^^ 1 <<< v.val) < 16 := Nat.lt_of_le_of_lt Nat.and_le_left hs
  have HIM := Lib.hid (fun w => l11Images_any (s &&& (15 ^^^ 1 <<< v.val)) hlt16 m w)
  have han : bits .andNot .i64 (s : Int) ((1 <<< v.val : Nat) : Int) = ((s &&& (15 ^^^ 1 <<< v.val) : Nat) : Int) := andNot_i64 _ _ hs (Fm.bit_lt v)
  have hs1 := shl_i64 v
  have HBT := Lib.hid (fun u => img_bit s hs m v u)
  have hA := Fm.imgTo_lt (s &&& (15 ^^^ 1 <<< v.val)) m 4
  unfold mapC at hW
  have HW := Lib.hid hW
  clear hW
  generalize Fm.imgTo (s &&& (15 ^^^ 1 <<< v.val)) m 4 = A at *
  generalize (s &&& (15 ^^^ 1 <<< v.val)) = B at *
  have hv4 := v.isLt
  have hbits : ∀ u : Fin 4, bits .and .i64 ((A : Int) / ((2 ^ u.val : Nat) : Int)) 1 = if Fm.taken s m v u then 1 else 0 := fun u => by
    rcases p_bits A (2 ^ u.val) hA with ⟨h1, h2⟩ | ⟨h1, h2⟩
    · rw [h1, if_neg (fun h => h2 ((HBT.out u).2 h))]
    · rw [h1, if_pos ((HBT.out u).1 h2)]
  have hb0 : bits .and .i64 (A : Int) 1 = if Fm.taken s m v 0 then 1 else 0 := by simpa using hbits 0
  have hb1 : bits .and .i64 ((A : Int) / 2) 1 = if Fm.taken s m v 1 then 1 else 0 := hbits 1
  have hb2 : bits .and .i64 ((A : Int) / 4) 1 = if Fm.taken s m v 2 then 1 else 0 := hbits 2
  have hb3 : bits .and .i64 ((A : Int) / 8) 1 = if Fm.taken s m v 3 then 1 else 0 := hbits 3
  have hbv : bits .and .i64 ((A : Int) / 2 ^ v.val) 1 = if Fm.taken s m v v then 1 else 0 := by
    have := hbits v
    rw [show ((2 ^ v.val : Nat) : Int) = (2 : Int) ^ v.val by simp] at this
    exact this
  have HKE := Lib.hid (fun h => freshI_kept (v := v) (s := s) (m := m) h)
  have HFI := Lib.hid (fun h => freshI_first (v := v) (s := s) (m := m) h)
  unfold Fm.firstFree at HFI
  obtain ⟨RES, hres⟩ : ∃ r, Fm.freshI v s m = r := ⟨_, rfl⟩
  rw [hres] at HKE HFI ⊢
  generalize Fm.taken s m v v = tv at *
  generalize Fm.taken s m v 0 = t0 at *
  generalize Fm.taken s m v 1 = t1 at *
  generalize Fm.taken s m v 2 = t2 at *
  generalize Fm.taken s m v 3 = t3 at *
  generalize (1 <<< v.val) = C at *
  generalize v.val = k at *
  clear hres hbits HBT hlt16
  have hkI : (0 : Int) ≤ (k : Int) ∧ (k : Int) < 4 := by omega
  have hcv : IntKind.u64.wrap (k : Int) = k := IntWalk.u64_in _ (by omega)
  unfold mapV at HIM ⊢
  cases tv
  · have HE : Hid (RES = (k : Int)) := HKE.out rfl
    have hbv : bits .and .i64 ((A : Int) / 2 ^ k) 1 = 0 := hbv
    clear HKE HFI hb0 hb1 hb2 hb3
    go_enter Tryd.func165, Tryd.ntmps165
    go_upto_region 1 with fail
    rw [HW.out]
    go_wp2_with fail
    refine (HIM.out _).mono ?_; rintro e w2 ⟨rfl, hb⟩
    have HB2 := Lib.hid (HM.out.2.trans (hb.mono HM.out.2.size))
    clear hb
    go_wp2_with fail
    go_ret
    exact ⟨ret_int HE.out.symm, HB2.out⟩
  · have HE : Hid (RES = if t0 then if t1 then if t2 then if t3 then -1 else 3 else 2 else 1 else 0) := HFI.out rfl
    have hbv : bits .and .i64 ((A : Int) / 2 ^ k) 1 = 1 := hbv
    clear HKE HFI
    go_enter Tryd.func165, Tryd.ntmps165
    go_upto_region 1 with fail
    rw [HW.out]
    go_wp2_with fail
    refine (HIM.out _).mono ?_; rintro e w2 ⟨rfl, hb⟩
    have HB2 := Lib.hid (HM.out.2.trans (hb.mono HM.out.2.size))
    clear hb
    go_wp2_with fail
    go_loop [8] (fun i => i = .int .i64 0 ∨ (i = .int .i64 1 ∧ Hid (t0 = true)) ∨ (i = .int .i64 2 ∧ Hid (t0 = true ∧ t1 = true)) ∨ (i = .int .i64 3 ∧ Hid (t0 = true ∧ t1 = true ∧ t2 = true)) ∨ (i = .int .i64 4 ∧ Hid (t0 = true ∧ t1 = true ∧ t2 = true ∧ t3 = true))) (fun i => 4 - (intOf i).toNat)
    case atStart => exact .inl rfl
    case round =>
      rcases hrel with rfl | ⟨rfl, H⟩ | ⟨rfl, H⟩ | ⟨rfl, H⟩ | ⟨rfl, H⟩
      · cases t0
        · have HEE : Hid ((0 : Int) = RES) := by show _ = _; rw [HE.out]; simp
          have hb0 : bits .and .i64 (A : Int) 1 = 0 := hb0
          go_wp2_with fail
          go_ret
          exact ⟨ret_int HEE.out, HB2.out⟩
        · have hb0 : bits .and .i64 (A : Int) 1 = 1 := hb0
          go_wp2_with fail
          go_round
          case rel => exact .inr (.inl ⟨rfl, (by first | rfl | exact True.intro)⟩)
          case measure => simp [intOf]
      · cases t1
        · have HEE : Hid ((1 : Int) = RES) := by show _ = _; rw [HE.out, H.out]; simp
          have hb1 : bits .and .i64 ((A : Int) / 2) 1 = 0 := hb1
          go_wp2_with fail
          go_ret
          exact ⟨ret_int HEE.out, HB2.out⟩
        · have hb1 : bits .and .i64 ((A : Int) / 2) 1 = 1 := hb1
          go_wp2_with fail
          go_round
          case rel => exact .inr (.inr (.inl ⟨rfl, H.out, (by first | rfl | exact True.intro)⟩))
          case measure => simp [intOf]
      · cases t2
        · have HEE : Hid ((2 : Int) = RES) := by show _ = _; rw [HE.out, H.out.1, H.out.2]; simp
          have hb2 : bits .and .i64 ((A : Int) / 4) 1 = 0 := hb2
          go_wp2_with fail
          go_ret
          exact ⟨ret_int HEE.out, HB2.out⟩
        · have hb2 : bits .and .i64 ((A : Int) / 4) 1 = 1 := hb2
          go_wp2_with fail
          go_round
          case rel => exact .inr (.inr (.inr (.inl ⟨rfl, H.out.1, H.out.2, (by first | rfl | exact True.intro)⟩)))
          case measure => simp [intOf]
      · cases t3
        · have HEE : Hid ((3 : Int) = RES) := by show _ = _; rw [HE.out, H.out.1, H.out.2.1, H.out.2.2]; simp
          have hb3 : bits .and .i64 ((A : Int) / 8) 1 = 0 := hb3
          go_wp2_with fail
          go_ret
          exact ⟨ret_int HEE.out, HB2.out⟩
        · have hb3 : bits .and .i64 ((A : Int) / 8) 1 = 1 := hb3
          go_wp2_with fail
          go_round
          case rel => exact .inr (.inr (.inr (.inr (⟨rfl, H.out.1, H.out.2.1, H.out.2.2, (by first | rfl | exact True.intro)⟩))))
          case measure => simp [intOf]
      · have HEE : Hid ((-1 : Int) = RES) := by show _ = _; rw [HE.out, H.out.1, H.out.2.1, H.out.2.2.1, H.out.2.2.2]; simp
        go_wp2_with fail
        go_ret
        exact ⟨ret_int HEE.out, HB2.out⟩
end Go.Proofs.YtjepegkbbbebkaaDoor
