/- Contracts of the program's functions and what they compute: part 14. Conditions: those that each theorem states. -/
import Derived.Test.YthmhjihppbeodaaGreatDoorP7n8
import Derived.Test.YthmhjihppbeodaaGreatDoorP7n12
import Derived.Test.YthmhjihppbeodaaGreatDoorP7n13
import Derived.Test.YthmhjihppbeodaaGreatDoorP7n1
import Derived.Test.YthmhjihppbeodaaGreatDoorP7n4
import Derived.Test.YthmhjihppbeodaaGreatDoorP7n5
import Derived.Test.YthmhjihppbeodaaGreatDoorP7n3
import Derived.Maps.AppendAt
import Derived.Test.YthmhjihppbeodaaGreatDoorShelf
import Derived.StillTailTactics
import Derived.IntWalk
namespace Go.Proofs.YthmhjihppbeodaaGreatDoor
set_option linter.unusedVariables false
set_option maxRecDepth 100000
/-- A move: the side, and the element. -/
def mvSide (p : ByteArray) : Bool := decide (p.data.toList.getD 0 0 = 97)
def mvElt (p : ByteArray) : Nat := (p.data.toList.getD 1 0).toNat - 48
/-- The lists of a game, and whether the second player always answers. -/
def playP (a b : Gs.St) : List ByteArray → List Nat → List Nat → List Nat × List Nat × Bool
  | [], la, lb => (la, lb, true)
  | p :: ps, la, lb =>
    if mvSide p then
      match bestB a la b lb ps.length (mvElt p) with
      | some y => playP a b ps (la ++ [mvElt p]) (lb ++ [y])
      | none => (la ++ [mvElt p], lb, false)
    else
      match bestB b lb a la ps.length (mvElt p) with
      | some y => playP a b ps (la ++ [y]) (lb ++ [mvElt p])
      | none => (la, lb ++ [mvElt p], false)
theorem fitPl_some {a b : Gs.St} {la lb : List Nat} {x y : Nat} (h : fitPl a la b lb x = some y) : y < b.n ∧ Gs.still a la b lb x y = true :=
  ⟨List.mem_range.1 (List.mem_of_find?_eq_some h), by simpa using List.find?_some h⟩
theorem bestB_some {a b : Gs.St} {la lb : List Nat} {k x y : Nat} (h : bestB a la b lb k x = some y) : y < b.n ∧ Gs.still a la b lb x y = true := by
  unfold bestB at h
  cases hr : replyB a la b lb k x with
  | none => rw [hr] at h; exact fitPl_some h
  | some z =>
    rw [hr] at h
    injection h with h
    subst h
    have h2 := List.find?_some hr
    rw [Bool.and_eq_true] at h2
    exact ⟨List.mem_range.1 (List.mem_of_find?_eq_some hr), h2.1⟩
/-- After an answer the lists are alike again. -/
theorem best_same {a b : Gs.St} {la lb : List Nat} {k x y : Nat} (hl : la.length = lb.length) (hs : Gs.same a la b lb = true) (h : bestB a la b lb k x = some y) : Gs.same a (la ++ [x]) b (lb ++ [y]) = true := by
  rw [Gs.same_snoc hl, hs, (bestB_some h).2]; rfl
/-- A reply wins exactly if it gives the same type. -/
theorem reply_wins {a b : Gs.St} {la lb : List Nat} {k x : Nat} (hl : la.length = lb.length) (hs : Gs.same a la b lb = true) : replyB a la b lb k x = (List.range b.n).find? fun y => Gs.wins k a (la ++ [x]) b (lb ++ [y]) := by
  unfold replyB
  congr 1
  funext y
  show _ = (Gs.same a (la ++ [x]) b (lb ++ [y]) && Gs.goes k a (la ++ [x]) b (lb ++ [y]))
  rw [Gs.same_snoc hl, hs, Bool.true_and]
end Go.Proofs.YthmhjihppbeodaaGreatDoor

namespace Go.Proofs.YthmhjihppbeodaaGreatDoor
open Go.RowKit
set_option linter.unusedVariables false
set_option maxRecDepth 100000
section
variable {w wr w' : World} {v u v' : Value} {A B A' B' : List Nat}
theorem Own.blockN {B : Nat} {w : World} {v : Value} {L : List Nat} (h : Own B w v L) : ∃ k, v.ownBlock = some k ∧ B ≤ k ∧ k < w.heap.size := by
  obtain ⟨g, cap, rfl, h1, h2, _⟩ := h.cells
  exact ⟨g, rfl, h1, h2⟩
end
/-- One number is appended to a slice of the call's own; the new one lies where it lay, or in a new block. -/
theorem wpList_ownN1 {ops : Array Oper} {rest : List Oper} {o : Oper} {a : Act} {Q : Exit → Act → World → Prop} {B : Nat} {w : World} {v : Value} {L : List Nat}
    (hown : Own B w v L) (hL : L.length ≤ 2000000) (hgd : o.guard = none) (s x : Operand)
    (ho : o.op = .call { callee := .builtin .append, args := #[s, x], argTypes := #[27, 27] }) (y : Nat) (b : Nat) (hb : w.heap.size = b)
    (hs : a.eval s = v) (hx : a.eval x = .slice (some ⟨b, 0, none⟩) 1 1)
    (h : ∀ v' w', Own B w' v' (L ++ [y]) → w.grownBy w' v.ownBlock → (v'.ownBlock = v.ownBlock ∨ ∃ k, v'.ownBlock = some k ∧ w.heap.size ≤ k) → wpList Tryz.prog ops Q rest (a.put o.dst v') w') :
    wpList Tryz.prog ops Q (o :: rest) a (w.alloc (.cells #[.int .i64 (y : Int)] 3)) := by
  subst hb
  obtain ⟨i, hi, hz, h1, h2⟩ := info_parts natInfo3
  have hbase : B ≤ w.heap.size := hown.low
  refine wpList_append_own_at _ hgd s x 27 ho B 3 i (.int .i64 0) 1 8 Tryz.underlying27 hi hz h1 h2 rfl (by decide) v L.length _ hs (hown.own.alloc _) ⟨w.heap.size, 0, none⟩ 1 1 [.int .i64 (y : Int)] hx rfl ?_ ?_ ?_ ?_ ?_ ?_
  · intro j u hj
    match j, hj with
    | 0, hj => simp at hj; subst hj; simp [Addr.add]
  · intro u hu
    simp at hu; subst hu; rfl
  · unfold maxLen; omega
  · omega
  · simp; omega
  · intro v' w' h2 h3 h4 h5
    refine h v' w' ⟨?_, ?_, ?_⟩ ?_ ?_
    · simpa using h2
    · intro e
      exact hown.ne (h4.1 e).1
    · have := h3.size
      simp at this
      omega
    · refine ⟨h3.os, h3.tape, h3.output, ?_, fun k hk hne => ?_⟩
      · have := h3.size
        simp at this
        omega
      · rw [h3.block k (by simp; omega) hne]
        exact Below.heap_alloc _ _ _ hk
    · rcases h5 with e | e
      · exact .inl e
      · exact .inr ⟨_, e, by simp⟩
end Go.Proofs.YthmhjihppbeodaaGreatDoor

namespace Go.Proofs.YthmhjihppbeodaaGreatDoor
open Go.RowKit
set_option linter.unusedVariables false
set_option maxRecDepth 100000
/-- The table of ASCII spaces. -/
def TabSp (w : World) : Prop := Lib.TabIs Tryz.prog w "strings.asciiSpace" .u8 Lib.asciiSpaceTab
theorem TabSp.lt {w : World} (h : TabSp w) : 0 < w.heap.size := by
  have hgn : Tryz.prog.globalNamed "strings.asciiSpace" = some 0 := by kernel_rfl
  unfold TabSp Lib.TabIs World.var? at h
  rw [hgn] at h
  simp only [Option.bind_some] at h
  rcases Nat.lt_or_ge 0 w.heap.size with h' | h'
  · exact h'
  · rw [Array.getElem?_eq_none h'] at h; cases h
theorem TabSp.below {w w' : World} {B : Nat} (h : TabSp w) (hb : Below B w w') (hB : w.heap.size ≤ B) : TabSp w' := by
  have hlt := h.lt
  have hgn : Tryz.prog.globalNamed "strings.asciiSpace" = some 0 := by kernel_rfl
  unfold TabSp Lib.TabIs World.var? at h ⊢
  rw [hgn] at h ⊢
  simp only [Option.bind_some] at h ⊢
  rw [hb.block 0 (by omega)]
  exact h
/-- Two boxed structures, two lists that are built, and the moves. -/
structure Pg (w : World) (g : Nat) (n : Nat) (S R : ByteArray) (m : Nat) (S2 R2 : ByteArray) (M : List ByteArray) (v u : Value) (A B : List Nat) (wr : World) : Prop where
  two : Two w wr n S R m S2 R2
  a : Own (w.heap.size + 2) wr v A
  b : Own (w.heap.size + 2) wr u B
  ne : v.ownBlock ≠ u.ownBlock
  na : v.ownBlock ≠ some g
  nb : u.ownBlock ≠ some g
  lo : w.heap.size + 2 ≤ g
  hi : g < wr.heap.size
  mv : ∀ (j : Nat) (h : j < M.length), wr.cell? ⟨g, j, none⟩ = some (.string M[j])
section
variable {w wr w' : World} {g n : Nat} {S R : ByteArray} {m : Nat} {S2 R2 : ByteArray} {M : List ByteArray} {v u v' : Value} {A B A' : List Nat}
theorem Pg.below (h : Pg w g n S R m S2 R2 M v u A B wr) (hb : Below wr.heap.size wr w') : Pg w g n S R m S2 R2 M v u A B w' :=
  ⟨h.two.below hb, h.a.below hb, h.b.below hb, h.ne, h.na, h.nb, h.lo, Nat.lt_of_lt_of_le h.hi hb.size, fun j hj => (hb.cell (p := ⟨g, j, none⟩) h.hi).trans (h.mv j hj)⟩
theorem two_grown (h : Two w wr n S R m S2 R2) (hg : wr.grownBy w' v.ownBlock) (hv : ∀ k, v.ownBlock = some k → w.heap.size + 2 ≤ k) : Two w w' n S R m S2 R2 := by
  have hz := h.b.cells.2.2.2.2.2.2
  have hb : Below (w.heap.size + 2) wr w' := (Below.refl _ _).grown hg (by omega) hv
  have hn : ∀ k, k < w.heap.size + 2 → w'.heap[k]? = wr.heap[k]? := fun k hk => hb.block k hk
  exact ⟨(hn _ (by omega)).trans h.a, (hn _ (by omega)).trans h.b, h.old.trans (hb.mono (by omega))⟩
theorem Pg.pushA (h : Pg w g n S R m S2 R2 M v u A B wr) (ho : Own (w.heap.size + 2) w' v' A') (hg : wr.grownBy w' v.ownBlock) (hat : v'.ownBlock = v.ownBlock ∨ ∃ k, v'.ownBlock = some k ∧ wr.heap.size ≤ k) : Pg w g n S R m S2 R2 M v' u A' B w' := by
  obtain ⟨k, hk, hk1, hk2⟩ := h.b.blockN
  obtain ⟨j, hj, hj1, hj2⟩ := h.a.blockN
  have hhi := h.hi
  refine ⟨two_grown h.two hg (fun i hi => by rw [hj] at hi; injection hi with hi; omega), ho, h.b.kept (fun i hi hl => hg.block i hl (fun e => h.ne (e.symm.trans hi.symm))) hg.size, ?_, ?_, h.nb, h.lo, Nat.lt_of_lt_of_le h.hi hg.size, fun j hj => ?_⟩
  · rcases hat with e | ⟨i, e, hi⟩
    · rw [e]; exact h.ne
    · rw [e, hk]; intro e2; injection e2 with e2; omega
  · rcases hat with e | ⟨i, e, hi⟩
    · rw [e]; exact h.na
    · rw [e]; intro e2; injection e2 with e2; omega
  · exact (World.cell?_of_block (w := wr) (hg.block g h.hi (fun e => h.na e.symm))).trans (h.mv j hj)
theorem Pg.swapL (h : Pg w g n S R m S2 R2 M v u A B wr) : Pg w g n S R m S2 R2 M u v B A wr := ⟨h.two, h.b, h.a, fun e => h.ne e.symm, h.nb, h.na, h.lo, h.hi, h.mv⟩
theorem Pg.pushB (h : Pg w g n S R m S2 R2 M v u A B wr) (ho : Own (w.heap.size + 2) w' v' A') (hg : wr.grownBy w' u.ownBlock) (hat : v'.ownBlock = u.ownBlock ∨ ∃ k, v'.ownBlock = some k ∧ wr.heap.size ≤ k) : Pg w g n S R m S2 R2 M v v' A A' w' :=
  (h.swapL.pushA ho hg hat).swapL
end
/-- What PlayGame leaves. -/
def PlayP (A B : List Nat) (t : ByteArray) (w : World) (e : Ending) (w' : World) : Prop := ∃ v u, e = .returned (.tuple #[v, u, .string t]) ∧ NumsAt w' v A ∧ NumsAt w' u B ∧ Below w.heap.size w w'
def endB (c : Bool) : ByteArray := if c then ⟨#[115, 101, 99, 111, 110, 100]⟩ else ⟨#[102, 105, 114, 115, 116]⟩
end Go.Proofs.YthmhjihppbeodaaGreatDoor

namespace Go.Proofs.YthmhjihppbeodaaGreatDoor
open Go.RowKit
def inB (n lo hi : Int) : Bool := decide (lo ≤ n) && decide (n ≤ hi)
theorem inB_true {n lo hi : Int} (h : lo ≤ n) (h' : n ≤ hi) : inB n lo hi = true := by simp [inB, h, h']
theorem inB_lo {n lo hi : Int} (h : ¬ lo ≤ n) : inB n lo hi = false := by simp [inB, h]
theorem inB_hi {n lo hi : Int} (h : ¬ n ≤ hi) : inB n lo hi = false := by simp [inB, h]
theorem inB_iff {n lo hi : Int} : inB n lo hi = true ↔ lo ≤ n ∧ n ≤ hi := by simp [inB]
theorem l1In_any (n lo hi : Int) (w : World) :
    Calls Tryz.prog 46 #[.int .i64 n, .int .i64 lo, .int .i64 hi] w fun e w' => e = .returned (.bool (inB n lo hi)) ∧ w = w' := by
  by_cases h : lo ≤ n
  · by_cases h' : n ≤ hi
    · have H := Lib.hid (inB_true h h')
      go_enter Tryz.func46, Tryz.ntmps46
      go_wp2
      go_ret
      exact ⟨ret_bool H.out.symm, rfl⟩
    · have H := Lib.hid (inB_hi (lo := lo) h')
      go_enter Tryz.func46, Tryz.ntmps46
      go_wp2
      go_ret
      exact ⟨ret_bool H.out.symm, rfl⟩
  · have H := Lib.hid (inB_lo (hi := hi) h)
    go_enter Tryz.func46, Tryz.ntmps46
    go_wp2
    go_ret
    exact ⟨ret_bool H.out.symm, rfl⟩
end Go.Proofs.YthmhjihppbeodaaGreatDoor

namespace Go.Proofs.YthmhjihppbeodaaGreatDoor
open Go.RowKit
theorem dropWhile_nil (p : UInt8 → Bool) : ∀ l : List UInt8, l.dropWhile p = [] ↔ l.all p = true
  | [] => by simp
  | x :: l => by
    have ih := dropWhile_nil p l
    cases h : p x
    · simp [List.dropWhile, h]
    · simp only [List.dropWhile, h, List.all_cons, Bool.true_and]; exact ih
theorem dropWhile_head (p : UInt8 → Bool) : ∀ l : List UInt8, ∀ x m, l.dropWhile p = x :: m → p x = false
  | [], _, _, h => by simp at h
  | y :: l, x, m, h => by
    cases hy : p y
    · simp only [List.dropWhile, hy, List.cons.injEq] at h
      rw [← h.1]; exact hy
    · simp only [List.dropWhile, hy] at h
      exact dropWhile_head p l x m h
theorem trim_nil (p : UInt8 → Bool) (l : List UInt8) : ((l.reverse.dropWhile p).reverse.dropWhile p = []) ↔ l.all p = true := by
  rw [dropWhile_nil, List.all_reverse]
  cases h : l.reverse.dropWhile p with
  | nil =>
    have := (dropWhile_nil p _).1 h
    rw [List.all_reverse] at this
    simp [this]
  | cons x m =>
    have hx := dropWhile_head p _ x m h
    constructor
    · intro ha
      simp [hx] at ha
    · intro ha
      rw [← List.all_reverse] at ha
      rw [(dropWhile_nil p _).2 ha] at h
      cases h
end Go.Proofs.YthmhjihppbeodaaGreatDoor
