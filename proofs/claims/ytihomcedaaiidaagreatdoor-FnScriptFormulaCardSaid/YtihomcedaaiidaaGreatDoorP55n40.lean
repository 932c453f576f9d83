/- Contracts of the program's functions and what they compute: part 40. Conditions: those that each theorem states. -/
import Derived.Test.YtihomcedaaiidaaGreatDoorP55n28
import Derived.Test.YtihomcedaaiidaaGreatDoorP55n32
import Derived.Test.YtihomcedaaiidaaGreatDoorP55n33
import Derived.Test.YtihomcedaaiidaaGreatDoorP55n38
import Derived.Test.YtihomcedaaiidaaGreatDoorP55n39
import Derived.Test.YtihomcedaaiidaaGreatDoorP55n6
import Derived.Test.YtihomcedaaiidaaGreatDoorP55n12
import Derived.Test.YtihomcedaaiidaaGreatDoorP55n20
import Derived.Laws.IdiomStrings
import Derived.IntWalk
import Derived.Laws.EntriesVeiled
namespace Go.Proofs.YtihomcedaaiidaaGreatDoor
open Go.RowKit
set_option linter.unusedVariables false
set_option maxRecDepth 100000
/-- Two structures and a sentence; its negations pushed, and that turned. -/
structure FoOk (m : Nat) (S R TS TR f g h : ByteArray) (φ : Fm.T) (r k : Nat) (b1 b2 : Bool) : Prop where
  v : validB m S R = true
  u : validB m TS TR = true
  fr : readB f = some φ
  hr : r ≤ 1000000
  hk : k ≤ 4
  gz : g.size ≤ 4000
  hz : h.size ≤ 4000
  rnk : ∀ w, Calls Tryz.prog 13 #[.string f] w fun e w' => e = .returned (.int .i64 (r : Int)) ∧ Below w.heap.size w w'
  wid : ∀ w, Calls Tryz.prog 14 #[.string f] w fun e w' => e = .returned (.int .i64 (k : Int)) ∧ Below w.heap.size w w'
  psh : ∀ w, Calls Tryz.prog 7 #[.string f] w fun e w' => e = .returned (.tuple #[.string g, .bool true]) ∧ Below w.heap.size w w'
  rev : ∀ w, Calls Tryz.prog 9 #[.string g] w fun e w' => e = .returned (.tuple #[.string h, .bool true]) ∧ Below w.heap.size w w'
  t1 : hin f (stOf m S R) = (b1, true)
  t2 : hin f (stOf m TS TR) = (b2, true)
  t3 : hin g (stOf m S R) = (b1, true)
  t4 : hin g (stOf m TS TR) = (b2, true)
theorem form_steps (w0 : World) (ht : Tab w0) (m : Nat) (S R TS TR f g h : ByteArray) (φ : Fm.T) (r k : Nat) (b1 b2 : Bool) (H : FoOk m S R TS TR f g h φ r k b1 b2) :
    Steps w0 desk0 (formLines (fmtS S R) (fmtS TS TR) f) (formAns (shB φ) (numsB [r, k]) (truthB b1) (truthB b2) g h) := by
  have fz := read_size H.fr
  have gz := H.gz
  have e1 : (⟨#[108, 101, 102, 116, 32]⟩ : ByteArray) = ⟨#[108, 101, 102, 116]⟩ ++ ⟨#[32]⟩ := ByteArray.ext (Array.toList_inj.1 rfl)
  have e2 : (⟨#[114, 105, 103, 104, 116, 32]⟩ : ByteArray) = ⟨#[114, 105, 103, 104, 116]⟩ ++ ⟨#[32]⟩ := ByteArray.ext (Array.toList_inj.1 rfl)
  have e3 : (⟨#[102, 111, 114, 109, 117, 108, 97, 32]⟩ : ByteArray) = ⟨#[102, 111, 114, 109, 117, 108, 97]⟩ ++ ⟨#[32]⟩ := ByteArray.ext (Array.toList_inj.1 rfl)
  unfold formLines formAns
  rw [e1, e2, e3]
  have R1 := run_left w0 desk0 m S R H.v
  have R2 := run_right w0 { desk0 with n := (m : Int), S := S, R := R } m TS TR H.u
  obtain ⟨d2, hd2⟩ : ∃ d2 : DS, { { desk0 with n := (m : Int), S := S, R := R } with m := (m : Int), T := TS, U := TR } = d2 := ⟨_, rfl⟩
  rw [hd2] at R2
  have R3 := run_formula w0 f φ H.fr fz d2
  obtain ⟨d3, hd3⟩ : ∃ d3 : DS, { d2 with f := f } = d3 := ⟨_, rfl⟩
  rw [hd3] at R3
  have n3 : d3.n = (m : Int) := by rw [← hd3, ← hd2]
  have S3 : d3.S = S := by rw [← hd3, ← hd2]
  have Q3 : d3.R = R := by rw [← hd3, ← hd2]
  have m3 : d3.m = (m : Int) := by rw [← hd3, ← hd2]
  have T3 : d3.T = TS := by rw [← hd3, ← hd2]
  have U3 : d3.U = TR := by rw [← hd3, ← hd2]
  have F3 : d3.f = f := by rw [← hd3]
  have R4 := run_show w0 d3 φ (by rw [F3]; exact H.fr)
  have R5 := run_rank w0 ht d3 r k H.hr H.hk (by rw [F3]; exact H.rnk) (by rw [F3]; exact H.wid)
  have R6 := run_holds w0 d3 m m b1 b2 n3 m3 (by rw [F3]; omega) (by rw [S3, Q3]; exact H.v) (by rw [T3, U3]; exact H.u) (by rw [F3, S3, Q3]; exact H.t1) (by rw [F3, T3, U3]; exact H.t2)
  have R7 := run_plain w0 _ (by decide) d3 _ g (plain_push w0 d3 g (by rw [F3]; exact H.psh))
  obtain ⟨d4, hd4⟩ : ∃ d4 : DS, { d3 with f := g } = d4 := ⟨_, rfl⟩
  rw [hd4] at R7
  have n4 : d4.n = (m : Int) := by rw [← hd4]; exact n3
  have S4 : d4.S = S := by rw [← hd4]; exact S3
  have Q4 : d4.R = R := by rw [← hd4]; exact Q3
  have m4 : d4.m = (m : Int) := by rw [← hd4]; exact m3
  have T4 : d4.T = TS := by rw [← hd4]; exact T3
  have U4 : d4.U = TR := by rw [← hd4]; exact U3
  have F4 : d4.f = g := by rw [← hd4]
  have R8 := run_holds w0 d4 m m b1 b2 n4 m4 (by rw [F4]; omega) (by rw [S4, Q4]; exact H.v) (by rw [T4, U4]; exact H.u) (by rw [F4, S4, Q4]; exact H.t3) (by rw [F4, T4, U4]; exact H.t4)
  have R9 := run_plain w0 _ (by decide) d4 _ h (plain_reverse w0 d4 h (by rw [F4]; exact H.rev))
  exact ⟨_, R1, _, R2, _, R3, _, R4, _, R5, _, R6, _, R7, _, R8, _, R9, trivial⟩
/-- A pushed sentence is read again, and answers alike. -/
theorem push_parts {f : ByteArray} {φ : Fm.T} (hr : readB f = some φ) (h0 : Fm.free φ = 0) (hf : f.size ≤ 500) (a : Gs.St) :
    readB (pushB φ) = some (Fm.pushT false φ) ∧ Fm.free (Fm.pushT false φ) = 0 ∧ (pushB φ).size ≤ 1000 ∧ hin (pushB φ) a = hin f a := by
  have h2 := (Fm.read_iff (s := f.data.toList)).1 hr
  have hlen : (Fm.text φ).length ≤ 500 := by
    rw [← h2.1]
    simpa using hf
  have hl := Fm.len_push φ false
  have e1 : readB (pushB φ) = some (Fm.pushT false φ) := readB_text (by omega)
  have e2 : Fm.free (Fm.pushT false φ) = 0 := (Fm.free_push φ false).trans h0
  refine ⟨e1, e2, ?_, ?_⟩
  · unfold pushB
    rw [txtS_size]
    omega
  · rw [hin_some e1 e2, hin_some hr h0, Fm.holds_push, Bool.false_xor]
theorem turnR_at {m : Nat} {R : ByteArray} {x y : Nat} (hx : x < m) (hy : y < m) : relAt m (turnR m R) x y = relAt m R y x := relAt_gridI _ _ _ _ hx hy
/-- A sentence turned holds in the turned structure as the sentence does. -/
theorem turn_hin {m : Nat} {S R g h : ByteArray} {ψ : Fm.T} (hm : 1 ≤ m) (hr : readB g = some ψ) (h0 : Fm.free ψ = 0) (kr : readB h = some (Fm.swap ψ)) :
    hin h (stOf m (bitsOf (oneAt S) m) (turnR m R)) = hin g (stOf m S R) := by
  have k0 : Fm.free (Fm.swap ψ) = 0 := (Fm.free_swap ψ).trans h0
  rw [hin_some kr k0, hin_some hr h0]
  have hT : Fm.holds (stOf m (bitsOf (oneAt S) m) (turnR m R)) (Fm.swap ψ) (fun _ => 0) = Fm.holds (Fm.turnSt (stOf m S R)) (Fm.swap ψ) (fun _ => 0) :=
    Fm.holds_ext (a := stOf m (bitsOf (oneAt S) m) (turnR m R)) (b := Fm.turnSt (stOf m S R)) rfl (fun x hx => oneAt_bitsI _ _ _ hx) (fun x y hx hy => turnR_at hx hy) _ _ (fun _ => hm)
  rw [hT, Fm.holds_swap]
end Go.Proofs.YtihomcedaaiidaaGreatDoor

namespace Go.Proofs.YtihomcedaaiidaaGreatDoor
open Go.RowKit
set_option linter.unusedVariables false
set_option maxRecDepth 100000
theorem outT_foldl : ∀ (os : List ByteArray) (t : ByteArray), (os.foldl (fun t o => t ++ (o ++ ⟨#[10]⟩)) t).size = t.size + (os.map fun o => o.size + 1).sum
  | [], t => by simp
  | o :: os, t => by
    rw [List.foldl_cons, outT_foldl os, ByteArray.size_append, ByteArray.size_append, List.map_cons, List.sum_cons]
    show t.size + (o.size + 1) + _ = _
    omega
theorem outT_size (os : List ByteArray) : (outT os).size = (os.map fun o => o.size + 1).sum := by
  unfold outT
  rw [outT_foldl]
  show 0 + _ = _
  omega
theorem sum_take (l : List Nat) : ∀ j, (l.take j).sum ≤ l.sum := by
  induction l with
  | nil => intro j; simp
  | cons x l ih =>
    intro j
    cases j with
    | zero => simp
    | succ j => have := ih j; simp only [List.take_succ_cons, List.sum_cons]; omega
theorem outT_take (os : List ByteArray) (j : Nat) : (outT (os.take j)).size ≤ (outT os).size := by
  rw [outT_size, outT_size, List.map_take]
  exact sum_take _ _
theorem linesL_size : ∀ ls : List ByteArray, (linesL (ls.map fun s => s.data.toList)).length = (ls.map fun o => o.size + 1).sum
  | [] => rfl
  | l :: ls => by
    have := linesL_size ls
    simp only [List.map_cons, linesL, List.length_append, List.length_cons, List.sum_cons, this]
    have : l.data.toList.length = l.size := by simp
    omega
theorem linesB_size (ls : List ByteArray) : (linesB ls).size = (ls.map fun o => o.size + 1).sum := by
  rw [← linesL_size]
  show (linesL _).toArray.size = _
  simp
theorem truthB_size (b : Bool) : (truthB b).size ≤ 5 := by cases b <;> decide
end Go.Proofs.YtihomcedaaiidaaGreatDoor
