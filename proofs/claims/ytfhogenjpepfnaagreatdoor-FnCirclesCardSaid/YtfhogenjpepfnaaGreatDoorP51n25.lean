/- Contracts of the program's functions and what they compute: part 25. Conditions: those that each theorem states. -/
import Derived.Test.YtfhogenjpepfnaaGreatDoorP51n3
namespace Go.Proofs.YtfhogenjpepfnaaGreatDoor
open Go.RowKit
set_option linter.unusedVariables false
set_option maxRecDepth 100000
/-- The slice v of the world w is the call's own since block B, and holds the numbers L. -/
structure OwnI (B : Nat) (w : World) (v : Value) (L : List Int) : Prop where
  own : w.ownsRow B 3 1 v L.length (L.map (Value.int .i64))
  ne : v ≠ .slice none 0 0
  low : B ≤ w.heap.size
theorem OwnI.cells {B : Nat} {w : World} {v : Value} {L : List Int} (h : OwnI B w v L) :
    ∃ g cap, v = .slice (some ⟨g, 0, none⟩) L.length cap ∧ B ≤ g ∧ g < w.heap.size ∧ L.length ≤ cap ∧ cap ≤ maxLen ∧ ∀ j, j < L.length → w.cell? ⟨g, j, none⟩ = some (.int .i64 (L.getD j 0)) := by
  rcases h.own.2 with ⟨h1, h2⟩ | ⟨g, cap, cur, rfl, hb, hg, hnc, hcm, hcs, htake⟩
  · exact absurd h1 h.ne
  · refine ⟨g, cap, rfl, hb, (h.own.lt g rfl).2, hnc, hcm, fun j hj => ?_⟩
    rw [h.own.cellAt j (by omega)]
    simp [hj]
theorem OwnI.lit0 (B : Nat) (w : World) (hB : B ≤ w.heap.size) : OwnI B (w.alloc (.cells #[] 3)) (.slice (some ⟨w.heap.size, 0, none⟩) 0 0) [] :=
  ⟨World.ownsRow_made w #[] 0 hB (by decide) rfl, by simp, by simp; omega⟩
theorem OwnI.kept {B : Nat} {w w' : World} {v : Value} {L : List Int} (h : OwnI B w v L) (hb : ∀ k, v.ownBlock = some k → k < w.heap.size → w'.heap[k]? = w.heap[k]?) (hs : w.heap.size ≤ w'.heap.size) : OwnI B w' v L := by
  refine ⟨⟨h.own.1, ?_⟩, h.ne, Nat.le_trans h.low hs⟩
  rcases h.own.2 with hn | ⟨g, cap, cur, rfl, hb', hgg, rest⟩
  · exact .inl hn
  · exact .inr ⟨g, cap, cur, rfl, hb', by rw [hb g rfl (Array.getElem?_eq_some_iff.1 hgg).1]; exact hgg, rest⟩
theorem OwnI.below {B : Nat} {w w' : World} {v : Value} {L : List Int} (h : OwnI B w v L) (hb : Below w.heap.size w w') : OwnI B w' v L := h.kept (fun k _ hk => hb.block k hk) hb.size
theorem OwnI.mono {B B' : Nat} {w : World} {v : Value} {L : List Int} (h : OwnI B w v L) (hB : B' ≤ B) : OwnI B' w v L := by
  refine ⟨⟨h.own.1, ?_⟩, h.ne, Nat.le_trans hB h.low⟩
  rcases h.own.2 with hn | ⟨g, cap, cur, rfl, hb', rest⟩
  · exact .inl hn
  · exact .inr ⟨g, cap, cur, rfl, Nat.le_trans hB hb', rest⟩
theorem OwnI.block {B : Nat} {w : World} {v : Value} {L : List Int} (h : OwnI B w v L) : ∃ k, v.ownBlock = some k ∧ B ≤ k ∧ k < w.heap.size := by
  obtain ⟨g, cap, rfl, h1, h2, _⟩ := h.cells
  exact ⟨g, rfl, h1, h2⟩
theorem OwnI.grown {B b : Nat} {w w' : World} {v : Value} {L : List Int} (h : OwnI B w v L) (hg : w.grownBy w' (some b)) (hb : b < B) : OwnI B w' v L :=
  h.kept (fun k hk hl => hg.block k hl (by
    obtain ⟨j, hj, h1, _⟩ := h.block
    rw [hk] at hj; injection hj with hj
    intro e; injection e with e; omega)) hg.size
/-- One number is appended to a slice of the call's own. -/
theorem wpList_ownI1 {ops : Array Oper} {rest : List Oper} {o : Oper} {a : Act} {Q : Exit → Act → World → Prop} {B : Nat} {w : World} {v : Value} {L : List Int}
    (hown : OwnI B w v L) (hL : L.length ≤ 2000000) (hgd : o.guard = none) (s x : Operand)
    (ho : o.op = .call { callee := .builtin .append, args := #[s, x], argTypes := #[30, 30] }) (y : Int) (b : Nat) (hb : w.heap.size = b)
    (hs : a.eval s = v) (hx : a.eval x = .slice (some ⟨b, 0, none⟩) 1 1)
    (h : ∀ v' w', OwnI B w' v' (L ++ [y]) → w.grownBy w' v.ownBlock → wpList Tryz.prog ops Q rest (a.put o.dst v') w') :
    wpList Tryz.prog ops Q (o :: rest) a (w.alloc (.cells #[.int .i64 y] 3)) := by
  subst hb
  obtain ⟨i, hi, hz, h1, h2⟩ := info_parts natInfo3
  have hbase : B ≤ w.heap.size := hown.low
  have hown' : (w.alloc (.cells #[.int .i64 y] 3)).ownsRow B 3 1 v L.length (L.map (Value.int .i64)) := (hown.below ((Below.refl _ _).alloc (Nat.le_refl _) _)).own
  refine wpList_append_own _ hgd s x 30 ho B 3 i (.int .i64 0) 1 8 Tryz.underlying30 hi hz h1 h2 rfl (by decide) v L.length _ hs hown' ⟨w.heap.size, 0, none⟩ 1 1 [.int .i64 y] hx rfl ?_ ?_ ?_ ?_ ?_ ?_
  · intro j u hj
    match j, hj with
    | 0, hj => simp at hj; subst hj; simp [Addr.add]
  · intro u hu
    simp at hu; subst hu; rfl
  · unfold maxLen; omega
  · omega
  · simp; omega
  · intro v' w' h2 h3 h4
    refine h v' w' ⟨?_, ?_, ?_⟩ ?_
    · simpa using h2
    · intro e
      exact hown.ne (h4.1 e).1
    · have := h3.size
      simp at this
      omega
    · refine ⟨h3.os, h3.tape, h3.output, ?_, fun k hk hne => ?_⟩
      · have := h3.size
        simp at this
        omega
      · rw [h3.block k (by simp; omega) hne]
        exact Below.heap_alloc _ _ _ hk
end Go.Proofs.YtfhogenjpepfnaaGreatDoor

namespace Go.Proofs.YtfhogenjpepfnaaGreatDoor
open Go.RowKit
set_option linter.unusedVariables false
set_option maxRecDepth 100000
/-- A list of numbers that a call has built. -/
def ListI (L : List Int) (w : World) (e : Ending) (w' : World) : Prop := ∃ v, e = .returned v ∧ OwnI w.heap.size w' v L ∧ Below w.heap.size w w'
theorem besides_any (n : Nat) (hn : n ≤ 1000) (w : World) : Calls Tryz.prog 48 #[.int .i64 (n : Int)] w (ListI (List.replicate n (-1)) w) := by
  have HP0 : Hid (OwnI w.heap.size (w.alloc (.cells #[] 3)) (.slice (some ⟨w.heap.size, 0, none⟩) 0 0) (List.replicate 0 (-1)) ∧ Below w.heap.size w (w.alloc (.cells #[] 3))) := ⟨OwnI.lit0 _ _ (Nat.le_refl _), (Below.refl _ _).alloc (Nat.le_refl _) _⟩
  go_enter Tryz.func48, Tryz.ntmps48
  go_wp2_with fail
  go_loopw [6, 3] (fun q o wr => ∃ k : Nat, k ≤ n ∧ q = .int .i64 (k : Int) ∧ Hid (OwnI w.heap.size wr o (List.replicate k (-1)) ∧ Below w.heap.size w wr)) (fun q _ _ => n - (intOf q).toNat)
  case atStart => exact ⟨0, by omega, rfl, HP0.out⟩
  case round =>
    clear HP0
    obtain ⟨k, hk, rfl, HP⟩ := hrel
    by_cases hlt : k < n
    · have hkI : (k : Int) < (n : Int) := by omega
      have HLL : Hid ((List.replicate k (-1 : Int)).length ≤ 2000000) := by show _ ≤ _; rw [List.length_replicate]; omega
      go_wp2_with (first | (at_builtin; refine wpList_ownI1 HP.out.1 HLL.out rfl (.tmp 8) (.tmp 9) rfl (-1) _ rfl rfl rfl ?_; intro v' w' ho hg; have HP2 : Hid (OwnI w.heap.size w' v' (List.replicate (k + 1) (-1)) ∧ Below w.heap.size w w') := ⟨by rw [List.replicate_succ']; exact ho, HP.out.2.grown hg HP.out.2.size (fun j hj => (HP.out.1.own.lt j hj).1)⟩; clear ho hg) | fail)
      go_roundw
      case rel => exact ⟨k + 1, by omega, by go_num, HP2.out⟩
      case measure => simp [intOf]; omega
    · obtain rfl : k = n := by omega
      have HF : Hid (ListI (List.replicate k (-1)) w (.returned u3) wr) := ⟨_, rfl, HP.out.1, HP.out.2⟩
      go_wp2_with fail
      go_ret
      exact HF.out
end Go.Proofs.YtfhogenjpepfnaaGreatDoor
