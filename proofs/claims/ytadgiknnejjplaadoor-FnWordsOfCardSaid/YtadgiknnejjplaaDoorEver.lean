/- Regions whose order is open and whose calls turn the holder's map alone: one walk in the order of the text. Conditions: each operation but the calls leaves the world alone. -/
import Derived.Test.YtadgiknnejjplaaDoorMemo
import Derived.Test.YtadgiknnejjplaaDoorSince
import Derived.Test.YtadgiknnejjplaaDoorStill
namespace Go.Proofs.YtadgiknnejjplaaDoor
open Go.RowKit
set_option linter.unusedVariables false

/-- Since w the map of what is known alone has turned. -/
structure EverP (F G : Nat → Prop) (kb : Nat) (a : Gs.St) (w w' : World) : Prop where
  off : Off G w w'
  memo : ∃ G', Memo F G' w' kb a ∧ ∀ b, G' b → G b ∨ w.heap.size ≤ b
section
variable {F G : Nat → Prop} {kb : Nat} {a : Gs.St} {w w1 w2 : World}
theorem EverP.refl (h : Memo F G w kb a) : EverP F G kb a w w := ⟨Off.refl _ _, G, h, fun b hb => .inl hb⟩
theorem EverP.of_below (h : Memo F G w kb a) (hb : Below w.heap.size w w1) : EverP F G kb a w w1 := ⟨Off.of_below hb, G, h.below hb, fun b hb => .inl hb⟩
theorem EverP.trans (h : EverP F G kb a w w1) (h1 : ∀ G', Memo F G' w1 kb a → EverP F G' kb a w1 w2) : EverP F G kb a w w2 := by
  obtain ⟨G', m, hG⟩ := h.memo
  have k := h1 G' m
  obtain ⟨G2, m2, hG2⟩ := k.memo
  refine ⟨h.off.trans k.off hG, G2, m2, fun b hb => ?_⟩
  rcases hG2 b hb with h3 | h3
  · exact hG b h3
  · exact .inr (Nat.le_trans h.off.size h3)
/-- Of what is not the map's nothing has turned. -/
theorem EverP.heap (h : EverP F G kb a w w1) {b : Nat} (hb : b < w.heap.size) (hG : ¬ G b) : w1.heap[b]? = w.heap[b]? := h.off.block b hb hG
theorem EverP.cell (h : EverP F G kb a w w1) {p : Addr} {v : Value} (hc : w.cell? p = some v) (hG : ¬ G p.block) : w1.cell? p = some v :=
  (h.off.cell (World.block_lt_of_cell? w p hc) hG).trans hc
end
/-- The worlds since w in which the map alone has turned. -/
def Ever (F G : Nat → Prop) (kb : Nat) (a : Gs.St) (w : World) : Type := {w' : World // EverP F G kb a w w'}
def Ever.w {F G : Nat → Prop} {kb : Nat} {a : Gs.St} {w : World} (s : Ever F G kb a w) : World := s.1
theorem Ever.p {F G : Nat → Prop} {kb : Nat} {a : Gs.St} {w : World} (s : Ever F G kb a w) : EverP F G kb a w s.w := s.2
theorem Ever.cell {F G : Nat → Prop} {kb : Nat} {a : Gs.St} {w : World} {p : Addr} {v : Value} (hc : w.cell? p = some v) (hG : ¬ G p.block) (s : Ever F G kb a w) : s.w.cell? p = some v := s.p.cell hc hG
theorem wp_region_ever {P : Program} {id : Nat} {Q : Exit → Act → World → Prop} {act : Act} {w : World} {l : List Oper} {F G : Nat → Prop} {kb : Nat} {a : Gs.St} (h0 : Memo F G w kb a) (hm : P.follows .mixedOrders = true) (hB : Region.lexB .any l.toArray = true)
    (h : wpQuiet P l.toArray (fun w' => ∃ s : Ever F G kb a w, w' = s.w) (fun a' => ∀ w', EverP F G kb a w w' → Q .normal a' w') l act) : (Code.region id l.toArray true).wp P Q act w := by
  simp only [Region.lexB, Bool.and_eq_true] at hB
  refine wp_region_any hm (wpAny_of_quiet (C := fun w' => ∃ s : Ever F G kb a w, w' = s.w) (Q := fun a' => ∀ w', EverP F G kb a w w' → Q .normal a' w') (fun _ w' ⟨s, hs⟩ h => h w' (by rw [hs]; exact s.p)) _ _ _ _ ⟨⟨{ w with drawn := w.drawn + 1 }, EverP.of_below h0 ⟨rfl, rfl, rfl, Nat.le_refl _, fun _ _ => rfl⟩⟩, rfl⟩ ?_)
  have := wpAnyQ_lex (P := P) (C := fun w' => ∃ s : Ever F G kb a w, w' = s.w) (md := .any) hB.1 l 0 (Array.replicate l.toArray.size false) act (by simp) (by simpa using hB.2) h
  simpa using this
/-- A call that turns the map alone. -/
theorem Ever.call {P : Program} {f : FuncId} {args : Array Value} {F G : Nat → Prop} {kb : Nat} {a : Gs.St} {w : World} {s : Ever F G kb a w} {v : Value}
    (h : ∀ G', Memo F G' s.w kb a → Calls P f args s.w fun e w' => e = .returned v ∧ EverP F G' kb a s.w w') : Calls P f args s.w fun e w'' => e = .returned v ∧ ∃ s' : Ever F G kb a w, w'' = s'.w := by
  obtain ⟨G', m, hG⟩ := s.p.memo
  refine (h G' m).mono fun e w' ⟨he, hb⟩ => ⟨he, ⟨w', ⟨?_, ?_⟩⟩, rfl⟩
  · exact s.p.off.trans hb.off hG
  · obtain ⟨G2, m2, hG2⟩ := hb.memo
    refine ⟨G2, m2, fun b hb => ?_⟩
    rcases hG2 b hb with h3 | h3
    · exact hG b h3
    · exact .inr (Nat.le_trans s.p.off.size h3)
/-- A call that turns nothing that was there. -/
theorem Ever.call_below {P : Program} {f : FuncId} {args : Array Value} {F G : Nat → Prop} {kb : Nat} {a : Gs.St} {w : World} {s : Ever F G kb a w} {v : Value}
    (h : Calls P f args s.w fun e w' => e = .returned v ∧ Below s.w.heap.size s.w w') : Calls P f args s.w fun e w'' => e = .returned v ∧ ∃ s' : Ever F G kb a w, w'' = s'.w :=
  Ever.call fun G' m => h.mono fun e w' ⟨he, hb⟩ => ⟨he, EverP.of_below m hb⟩

/-- The holder in memory. -/
def HoldAt (w : World) (hb kb n : Nat) (S R : ByteArray) : Prop := w.heap[hb]? = some (.cells #[.int .i64 (n : Int), .string S, .string R, .map (some kb)] 137 (0, 0))
theorem HoldAt.cells {w : World} {hb kb n : Nat} {S R : ByteArray} (h : HoldAt w hb kb n S R) : w.cell? ⟨hb, 0, none⟩ = some (.int .i64 (n : Int)) ∧ w.cell? ⟨hb, 1, none⟩ = some (.string S) ∧ w.cell? ⟨hb, 2, none⟩ = some (.string R) ∧ w.cell? ⟨hb, 3, none⟩ = some (.map (some kb)) ∧ hb < w.heap.size := by
  unfold HoldAt at h
  refine ⟨?_, ?_, ?_, ?_, (Array.getElem?_eq_some_iff.1 h).1⟩ <;> simp [World.cell?, h]
def envV (e : Fm.Env) : Value := .agg #[.int .i64 ((e 0 : Nat) : Int), .int .i64 ((e 1 : Nat) : Int), .int .i64 ((e 2 : Nat) : Int), .int .i64 ((e 3 : Nat) : Int)]
def envC (e : Fm.Env) : Array Value := #[.int .i64 ((e 0 : Nat) : Int), .int .i64 ((e 1 : Nat) : Int), .int .i64 ((e 2 : Nat) : Int), .int .i64 ((e 3 : Nat) : Int)]
/-- What the holder stands on: its block and the trees' are among those that do not turn. -/
structure Base (F G : Nat → Prop) (w : World) (hb kb n : Nat) (S R : ByteArray) : Prop where
  hold : HoldAt w hb kb n S R
  foot : F hb
  memo : Memo F G w kb (stOf n S R)
  hS : S.size = n
  hR : R.size = n * n
  n1 : 1 ≤ n
  n8 : n ≤ 8
theorem Base.ever {F G G' : Nat → Prop} {w w' : World} {hb kb n : Nat} {S R : ByteArray} (h : Base F G w hb kb n S R) (he : EverP F G kb (stOf n S R) w w') (hm : Memo F G' w' kb (stOf n S R)) : Base F G' w' hb kb n S R :=
  ⟨(he.heap h.hold.cells.2.2.2.2 (h.memo.apart _ h.foot)).trans h.hold, h.foot, hm, h.hS, h.hR, h.n1, h.n8⟩
theorem Base.below {F G : Nat → Prop} {w w' : World} {hb kb n : Nat} {S R : ByteArray} (h : Base F G w hb kb n S R) (he : Below w.heap.size w w') : Base F G w' hb kb n S R := h.ever (EverP.of_below h.memo he) (h.memo.below he)
theorem Tree.ever {F G : Nat → Prop} {kb : Nat} {a : Gs.St} {w w' : World} {φ : Fm.T} {p : Nat} (h : Tree F w φ p) (hm : Memo F G w kb a) (he : EverP F G kb a w w') : Tree F w' φ p := h.off he.off hm.apart
/-- What isTrue and decide do with a formula. -/
def TrueOK (φ : Fm.T) : Prop := ∀ (F G : Nat → Prop) (w : World) (hb kb n : Nat) (S R : ByteArray) (p : Nat) (e : Fm.Env), Base F G w hb kb n S R → Tree F w φ p → (∀ v, e v < n) →
  Calls Tryd.prog 128 #[ptrV hb, ptrV p, envV e] w fun en w' => en = .returned (.bool (Fm.holds (stOf n S R) φ e)) ∧ EverP F G kb (stOf n S R) w w'
def DecideOK (φ : Fm.T) : Prop := ∀ (F G : Nat → Prop) (w : World) (hb kb n : Nat) (S R : ByteArray) (p : Nat) (e : Fm.Env), Base F G w hb kb n S R → Tree F w φ p → (∀ v, e v < n) →
  Calls Tryd.prog 175 #[ptrV hb, ptrV p, envV e] w fun en w' => en = .returned (.bool (Fm.holds (stOf n S R) φ e)) ∧ EverP F G kb (stOf n S R) w w'
end Go.Proofs.YtadgiknnejjplaaDoor
