/- Slices of texts in memory, and texts that a call builds. No condition but small lengths. -/
import Derived.Test.YtenjojakjdaamaaDoorBase
import Derived.Maps.AppendAt
namespace Go.Proofs.YtenjojakjdaamaaDoor
open Go.RowKit
set_option linter.unusedVariables false

/-- The slice v of the world w holds the texts L. -/
def TextsAt (w : World) (v : Value) (L : List ByteArray) : Prop :=
  (v = .slice none 0 0 ∧ L = []) ∨ ∃ g o cap, v = .slice (some ⟨g, o, none⟩) L.length cap ∧ L.length ≤ cap ∧ cap ≤ maxLen ∧ g < w.heap.size ∧ ∀ j, j < L.length → w.cell? ⟨g, o + j, none⟩ = some (.string (L.getD j ByteArray.empty))
theorem TextsAt.view {w : World} {v : Value} {L : List ByteArray} (h : TextsAt w v L) : ∃ (a : Option Addr) (cap : Nat), v = .slice a L.length cap ∧ L.length ≤ cap ∧ cap ≤ maxLen ∧
    (0 < L.length → ∃ g o, a = some ⟨g, o, none⟩ ∧ g < w.heap.size ∧ ∀ j, j < L.length → w.cell? ⟨g, o + j, none⟩ = some (.string (L.getD j ByteArray.empty))) := by
  rcases h with ⟨rfl, rfl⟩ | ⟨g, o, cap, rfl, h1, h2, h3, h4⟩
  · exact ⟨none, 0, rfl, Nat.le_refl _, by decide, fun h => absurd h (by simp)⟩
  · exact ⟨_, cap, rfl, h1, h2, fun _ => ⟨g, o, rfl, h3, h4⟩⟩
theorem TextsAt.kept {w w' : World} {v : Value} {L : List ByteArray} (h : TextsAt w v L) (hb : ∀ k, v.ownBlock = some k → k < w.heap.size → w'.heap[k]? = w.heap[k]?) (hs : w.heap.size ≤ w'.heap.size) : TextsAt w' v L := by
  rcases h with h | ⟨g, o, cap, rfl, h1, h2, hg, hc⟩
  · exact .inl h
  · exact .inr ⟨g, o, cap, rfl, h1, h2, by omega, fun j hj => (World.cell?_of_block (w := w) (hb g rfl hg)).trans (hc j hj)⟩
theorem TextsAt.below {w w' : World} {v : Value} {L : List ByteArray} (h : TextsAt w v L) (hb : Below w.heap.size w w') : TextsAt w' v L := h.kept (fun k _ hk => hb.block k hk) hb.size
theorem TextsAt.off {F : Nat → Prop} {w w' : World} {v : Value} {L : List ByteArray} (h : TextsAt w v L) (hb : Off F w w') (hF : ∀ k, v.ownBlock = some k → ¬ F k) : TextsAt w' v L := h.kept (fun k hk hl => hb.block k hl (hF k hk)) hb.size
theorem TextsAt.nil (w : World) : TextsAt w (.slice none 0 0) [] := .inl ⟨rfl, rfl⟩
/-- The first i texts. -/
theorem TextsAt.take {w : World} {a : Option Addr} {cap : Nat} {L : List ByteArray} (h : TextsAt w (.slice a L.length cap) L) (i : Nat) (hi : i ≤ L.length) (h0 : 0 < L.length) : TextsAt w (.slice a i cap) (L.take i) := by
  have hl : (L.take i).length = i := by rw [List.length_take]; omega
  rcases h with ⟨_, rfl⟩ | ⟨g, o, cap', he, h1, h2, hg, hc⟩
  · simp at h0
  · injection he with e1 e2 e3
    subst e1; subst e3
    refine .inr ⟨g, o, cap, by rw [hl], by omega, h2, hg, fun j hj => ?_⟩
    rw [hl] at hj
    rw [hc j (by omega)]
    simp [hj]

/-- The slice v of the world w is the call's own since block B, and holds the texts L. -/
structure OwnS (B : Nat) (w : World) (v : Value) (L : List ByteArray) : Prop where
  own : w.ownsRow B 9 1 v L.length (L.map Value.string)
  ne : v ≠ .slice none 0 0
  low : B ≤ w.heap.size
theorem OwnS.texts {B : Nat} {w : World} {v : Value} {L : List ByteArray} (h : OwnS B w v L) : TextsAt w v L := by
  rcases h.own.2 with ⟨h1, h2⟩ | ⟨g, cap, cur, rfl, hb, hg, hnc, hcm, hcs, htake⟩
  · exact absurd h1 h.ne
  · refine .inr ⟨g, 0, cap, rfl, hnc, hcm, (h.own.lt g rfl).2, fun j hj => ?_⟩
    rw [Nat.zero_add, h.own.cellAt j (by omega)]
    simp [hj]
theorem OwnS.cells {B : Nat} {w : World} {v : Value} {L : List ByteArray} (h : OwnS B w v L) :
    ∃ g cap, v = .slice (some ⟨g, 0, none⟩) L.length cap ∧ B ≤ g ∧ g < w.heap.size ∧ L.length ≤ cap ∧ cap ≤ maxLen ∧ ∀ j, j < L.length → w.cell? ⟨g, j, none⟩ = some (.string (L.getD j ByteArray.empty)) := by
  rcases h.own.2 with ⟨h1, h2⟩ | ⟨g, cap, cur, rfl, hb, hg, hnc, hcm, hcs, htake⟩
  · exact absurd h1 h.ne
  · refine ⟨g, cap, rfl, hb, (h.own.lt g rfl).2, hnc, hcm, fun j hj => ?_⟩
    rw [h.own.cellAt j (by omega)]
    simp [hj]
theorem OwnS.lit0 (B : Nat) (w : World) (hB : B ≤ w.heap.size) : OwnS B (w.alloc (.cells #[] 9)) (.slice (some ⟨w.heap.size, 0, none⟩) 0 0) [] :=
  ⟨World.ownsRow_made w #[] 0 hB (by decide) rfl, by simp, by simp; omega⟩
theorem OwnS.kept {B : Nat} {w w' : World} {v : Value} {L : List ByteArray} (h : OwnS B w v L) (hb : ∀ k, v.ownBlock = some k → k < w.heap.size → w'.heap[k]? = w.heap[k]?) (hs : w.heap.size ≤ w'.heap.size) : OwnS B w' v L := by
  refine ⟨⟨h.own.1, ?_⟩, h.ne, Nat.le_trans h.low hs⟩
  rcases h.own.2 with hn | ⟨g, cap, cur, rfl, hb', hgg, rest⟩
  · exact .inl hn
  · exact .inr ⟨g, cap, cur, rfl, hb', by rw [hb g rfl (Array.getElem?_eq_some_iff.1 hgg).1]; exact hgg, rest⟩
theorem OwnS.below {B : Nat} {w w' : World} {v : Value} {L : List ByteArray} (h : OwnS B w v L) (hb : Below w.heap.size w w') : OwnS B w' v L := h.kept (fun k _ hk => hb.block k hk) hb.size
theorem OwnS.off {B : Nat} {F : Nat → Prop} {w w' : World} {v : Value} {L : List ByteArray} (h : OwnS B w v L) (hb : Off F w w') (hF : ∀ k, v.ownBlock = some k → ¬ F k) : OwnS B w' v L := h.kept (fun k hk hl => hb.block k hl (hF k hk)) hb.size
theorem OwnS.alloc {B : Nat} {w : World} {v : Value} {L : List ByteArray} (h : OwnS B w v L) (o : Obj) : OwnS B (w.alloc o) v L := h.below ((Below.refl _ _).alloc (Nat.le_refl _) _)

theorem txtInfo9 : (Tryd.prog.info? 9).map (fun i => (i.zero, i.size, i.bytes)) = some (some (.string ByteArray.empty), 1, 16) := by kernel_rfl

/-- The texts of a slice are appended to a slice of the call's own. -/
theorem wpList_ownSAll {ops : Array Oper} {rest : List Oper} {o : Oper} {a : Act} {Q : Exit → Act → World → Prop} {B : Nat} {w : World} {v u : Value} {L M : List ByteArray}
    (hown : OwnS B w v L) (hM : TextsAt w u M) (hL : L.length + M.length ≤ 2000000) (hgd : o.guard = none) (s x : Operand)
    (ho : o.op = .call { callee := .builtin .append, args := #[s, x], argTypes := #[79, 79] })
    (hs : a.eval s = v) (hx : a.eval x = u)
    (h : ∀ v' w', OwnS B w' v' (L ++ M) → w.grownBy w' v.ownBlock → (v'.ownBlock = v.ownBlock ∨ ∃ k, v'.ownBlock = some k ∧ w.heap.size ≤ k) → wpList Tryd.prog ops Q rest (a.put o.dst v') w') :
    wpList Tryd.prog ops Q (o :: rest) a w := by
  obtain ⟨i, hi, hz, h1, h2⟩ := info_parts txtInfo9
  rcases hM with ⟨rfl, rfl⟩ | ⟨g, off, cap, rfl, m1, m2, mg, mc⟩
  · refine wpList_plain hgd fun K hK' => ?_
    have hrun := run_append_owned_none (P := Tryd.prog) w B 79 o.type 9 i 1 Tryd.underlying79 hi v L.length _ hown.own
    unfold Oper.wp
    simp [execOp, ho, resolve, invoke, builtin, hs, hx, hrun, Result.andThen]
    exact hK' _ _ (h v w (by simpa using hown) (World.grownBy.refl _ _) (.inl rfl))
  · refine wpList_append_own_at _ hgd s x 79 ho B 9 i (.string ByteArray.empty) 1 16 Tryd.underlying79 hi hz h1 h2 rfl (by decide) v L.length _ hs hown.own ⟨g, off, none⟩ M.length cap (M.map Value.string) hx (by simp) ?_ ?_ ?_ ?_ hown.low ?_
    · intro j u hj
      have hj' : j < M.length := by
        have := (List.getElem?_eq_some_iff.1 hj).1
        simpa using this
      have e : (⟨g, off, none⟩ : Addr).add j = ⟨g, off + j, none⟩ := by unfold Addr.add; split <;> simp_all
      rw [e, mc j hj']
      simpa [hj'] using hj
    · intro u hu
      obtain ⟨n, _, rfl⟩ := List.mem_map.1 hu
      rfl
    · unfold maxLen; omega
    · omega
    · intro v' w' h2 h3 h4 h5
      refine h v' w' ⟨?_, ?_, ?_⟩ h3 (h5.imp_right fun e => ⟨_, e, Nat.le_refl _⟩)
      · simpa using h2
      · intro e
        exact hown.ne (h4.1 e).1
      · have := h3.size
        have := hown.low
        omega
end Go.Proofs.YtenjojakjdaamaaDoor
/- All words of at most so many letters: plainly, and the program's wordsUpTo. Condition: at most eight letters. -/
namespace Go.Proofs.YtenjojakjdaamaaDoor
open Go.RowKit
set_option linter.unusedVariables false

/-- All words of so many letters. -/
def allW : Nat → List ByteArray
  | 0 => [ByteArray.empty]
  | n + 1 => (allW n).flatMap fun u => [u ++ ⟨#[120]⟩, u ++ ⟨#[121]⟩]
/-- All words of at most so many letters, shorter ones first. -/
def upTo : Nat → List ByteArray
  | 0 => []
  | n + 1 => upTo n ++ allW (n + 1)
theorem allW_size : ∀ (n : Nat) (u : ByteArray), u ∈ allW n → u.size = n
  | 0, u, h => by simp [allW] at h; subst h; rfl
  | n + 1, u, h => by
    obtain ⟨x, hx, hu⟩ := List.mem_flatMap.1 h
    have := allW_size n x hx
    simp at hu
    rcases hu with rfl | rfl <;> (rw [ByteArray.size_append, this]; rfl)
theorem flat2_length {α : Type} (f g : α → ByteArray) (l : List α) : (l.flatMap fun u => [f u, g u]).length = 2 * l.length := by
  induction l with
  | nil => rfl
  | cons x l ih => simp only [List.flatMap_cons, List.length_append, List.length_cons, List.length_nil, ih]; omega
theorem allW_length : ∀ n, (allW n).length = 2 ^ n
  | 0 => rfl
  | n + 1 => by rw [allW, flat2_length, allW_length n, Nat.pow_succ]; omega
theorem upTo_length : ∀ n, (upTo n).length + 2 = 2 ^ (n + 1)
  | 0 => rfl
  | n + 1 => by
    have := upTo_length n
    rw [upTo, List.length_append, allW_length, Nat.pow_succ _ (n + 1)]
    omega
theorem upTo_size : ∀ (n : Nat) (u : ByteArray), u ∈ upTo n → 1 ≤ u.size ∧ u.size ≤ n
  | 0, u, h => by cases h
  | n + 1, u, h => by
    rcases List.mem_append.1 h with h | h
    · have := upTo_size n u h; omega
    · have := allW_size (n + 1) u h; omega
theorem pow_8 {n : Nat} (h : n ≤ 8) : 2 ^ n ≤ 256 := Nat.pow_le_pow_right (by decide) h

theorem TextsAt.two (w : World) (x y : ByteArray) : TextsAt (w.alloc (.cells #[.string x, .string y] 9)) (.slice (some ⟨w.heap.size, 0, none⟩) 2 2) [x, y] := by
  refine .inr ⟨w.heap.size, 0, 2, rfl, Nat.le_refl _, by decide, by simp, fun j hj => ?_⟩
  have hj2 : j = 0 ∨ j = 1 := by simp at hj; omega
  rcases hj2 with rfl | rfl <;> simp
theorem TextsAt.one (w : World) (x : ByteArray) : TextsAt (w.alloc (.cells #[.string x] 9)) (.slice (some ⟨w.heap.size, 0, none⟩) 1 1) [x] := by
  refine .inr ⟨w.heap.size, 0, 1, rfl, Nat.le_refl _, by decide, by simp, fun j hj => ?_⟩
  have hj2 : j = 0 := by simpa using hj
  subst hj2; simp
theorem OwnS.block {B : Nat} {w : World} {v : Value} {L : List ByteArray} (h : OwnS B w v L) : ∃ k, v.ownBlock = some k ∧ B ≤ k ∧ k < w.heap.size := by
  obtain ⟨g, cap, rfl, h1, h2, _⟩ := h.cells
  exact ⟨g, rfl, h1, h2⟩
theorem OwnS.grown {B : Nat} {w w' : World} {v v2 : Value} {L : List ByteArray} (h : OwnS B w v L) (hg : w.grownBy w' v2.ownBlock) (hne : v.ownBlock ≠ v2.ownBlock) : OwnS B w' v L :=
  h.kept (fun k hk hl => hg.block k hl (by rw [← hk]; exact hne)) hg.size
theorem OwnS.lit (B : Nat) (w : World) (b : Nat) (hb : w.heap.size = b) (hB : B ≤ w.heap.size) : OwnS B (w.alloc (.cells #[] 9)) (.slice (some ⟨b, 0, none⟩) 0 0) [] := by
  subst hb
  exact OwnS.lit0 B w hB

/-- What a function leaves that returns a new list of texts. -/
def NewTexts (w : World) (L : List ByteArray) (e : Ending) (w' : World) : Prop := ∃ v, e = .returned v ∧ OwnS w.heap.size w' v L ∧ Below w.heap.size w w'

/-- What the outer loop keeps. -/
structure Wu (w wr : World) (i : Nat) (vo vl : Value) : Prop where
  out : OwnS w.heap.size wr vo (upTo i)
  last : OwnS w.heap.size wr vl (allW i)
  ne : vo.ownBlock ≠ vl.ownBlock
  old : Below w.heap.size w wr
/-- What the inner loop keeps. -/
structure Wu2 (w wr : World) (i j : Nat) (vo vl vn : Value) : Prop where
  out : OwnS w.heap.size wr vo (upTo i)
  last : OwnS w.heap.size wr vl (allW i)
  next : OwnS w.heap.size wr vn (((allW i).take j).flatMap fun u => [u ++ ⟨#[120]⟩, u ++ ⟨#[121]⟩])
  ne : vo.ownBlock ≠ vl.ownBlock
  ne1 : vn.ownBlock ≠ vo.ownBlock
  ne2 : vn.ownBlock ≠ vl.ownBlock
  old : Below w.heap.size w wr
theorem Wu2.step {w wr w' : World} {i j : Nat} {vo vl vn vn' : Value} {o : Obj} (h : Wu2 w wr i j vo vl vn) (hj : j < (allW i).length)
    (hown : OwnS w.heap.size w' vn' ((((allW i).take j).flatMap fun u => [u ++ ⟨#[120]⟩, u ++ ⟨#[121]⟩]) ++ [(allW i).getD j ByteArray.empty ++ ⟨#[120]⟩, (allW i).getD j ByteArray.empty ++ ⟨#[121]⟩]))
    (hg : (wr.alloc o).grownBy w' vn.ownBlock) (hat : vn'.ownBlock = vn.ownBlock ∨ ∃ k, vn'.ownBlock = some k ∧ (wr.alloc o).heap.size ≤ k) : Wu2 w w' i (j + 1) vo vl vn' := by
  obtain ⟨k1, e1, _, l1⟩ := h.out.block
  obtain ⟨k2, e2, _, l2⟩ := h.last.block
  have hs : (wr.alloc o).heap.size = wr.heap.size + 1 := by simp
  have hw := h.old.size
  have al : Below wr.heap.size wr (wr.alloc o) := (Below.refl _ _).alloc (Nat.le_refl _) _
  refine ⟨(h.out.below al).grown hg (Ne.symm h.ne1), (h.last.below al).grown hg (Ne.symm h.ne2), ?_, h.ne, ?_, ?_, ?_⟩
  · rw [List.take_succ_eq_append_getElem hj, List.flatMap_append]
    simpa [hj] using hown
  · rcases hat with h1 | ⟨k, h1, h2⟩
    · rw [h1]; exact h.ne1
    · rw [h1, e1]
      intro e
      have := Option.some.inj e
      omega
  · rcases hat with h1 | ⟨k, h1, h2⟩
    · rw [h1]; exact h.ne2
    · rw [h1, e2]
      intro e
      have := Option.some.inj e
      omega
  · refine (h.old.alloc hw _).grown hg (by omega) fun k hk => ?_
    obtain ⟨k3, e3, l3, _⟩ := h.next.block
    rw [e3] at hk
    obtain rfl := Option.some.inj hk
    exact l3

theorem wu_end {w wr w' : World} {i j : Nat} {vo vl vn vo' : Value} (h : Wu2 w wr i j vo vl vn) (hn : OwnS w.heap.size wr vn (allW (i + 1))) (hown : OwnS w.heap.size w' vo' (upTo i ++ allW (i + 1))) (hg : wr.grownBy w' vo.ownBlock)
    (hat : vo'.ownBlock = vo.ownBlock ∨ ∃ k, vo'.ownBlock = some k ∧ wr.heap.size ≤ k) : Wu w w' (i + 1) vo' vn := by
  obtain ⟨k3, e3, _, l3⟩ := hn.block
  refine ⟨hown, hn.grown hg h.ne1, ?_, h.old.grown hg h.old.size fun k hk => ?_⟩
  · rcases hat with h1 | ⟨k, h1, h2⟩
    · rw [h1]; exact Ne.symm h.ne1
    · rw [h1, e3]
      intro e
      have := Option.some.inj e
      omega
  · obtain ⟨k1, e1, l1, _⟩ := h.out.block
    rw [e1] at hk
    obtain rfl := Option.some.inj hk
    exact l1

end Go.Proofs.YtenjojakjdaamaaDoor
