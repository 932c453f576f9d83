/- Contracts of the program's functions and what they compute: part 36. Conditions: those that each theorem states. -/
import Derived.Test.YtdcnpjekmnlgjaaGreatDoorP56n35
import Derived.Test.YtdcnpjekmnlgjaaGreatDoorP56n15
import Derived.Test.YtdcnpjekmnlgjaaGreatDoorP56n23
import Derived.Test.YtdcnpjekmnlgjaaGreatDoorP56n32
namespace Go.Proofs.YtdcnpjekmnlgjaaGreatDoor
open Go.RowKit
set_option linter.unusedVariables false
set_option maxRecDepth 100000
namespace Fm
theorem free_putV {ps pr : T} (h1 : Upto 1 ps) (h2 : Upto 2 pr) : ∀ (φ : T) {m : M} {ψ : T}, putV ps pr φ m = some ψ → ∀ w : Fin 4, (free ψ).testBit w.val = true → ∃ u : Fin 4, (free φ).testBit u.val = true ∧ m u = w
  | .lit b, m, ψ, h, w, hw => by simp [putV] at h; subst h; simp [free] at hw
  | .set v, m, ψ, h, w, hw => by
    simp only [putV] at h
    obtain ⟨u, hu, e⟩ := (free_put ps h w).1 hw
    have h0 : u = 0 := by have := h1 u hu; omega
    subst h0
    exact ⟨v, by rw [free_set]; simp, by simpa [fput] using e⟩
  | .rel false v x, m, ψ, h, w, hw => by
    simp [putV] at h; subst h
    rw [free_rel, Bool.or_eq_true, decide_eq_true_iff, decide_eq_true_iff] at hw
    rcases hw with e | e
    · exact ⟨v, by rw [free_rel]; simp, e⟩
    · exact ⟨x, by rw [free_rel]; simp, e⟩
  | .rel true v x, m, ψ, h, w, hw => by
    simp only [putV] at h
    obtain ⟨u, hu, e⟩ := (free_put pr h w).1 hw
    have h0 : u = 0 ∨ u = 1 := by have := h2 u hu; omega
    rcases h0 with rfl | rfl
    · exact ⟨v, by rw [free_rel]; simp, by simpa [fput] using e⟩
    · exact ⟨x, by rw [free_rel]; simp, by simpa [fput] using e⟩
  | .neg f, m, ψ, h, w, hw => by
    simp only [putV] at h
    obtain ⟨g, h3, rfl⟩ := Option.map_eq_some_iff.1 h
    exact free_putV h1 h2 f h3 w hw
  | .bin o f g, m, ψ, h, w, hw => by
    simp only [putV] at h
    obtain ⟨f', h3, h4⟩ := Option.bind_eq_some_iff.1 h
    obtain ⟨g', h5, rfl⟩ := Option.map_eq_some_iff.1 h4
    rw [free_bin, Bool.or_eq_true] at hw
    rcases hw with hw | hw
    · obtain ⟨u, hu, e⟩ := free_putV h1 h2 f h3 w hw
      exact ⟨u, by rw [free_bin, hu]; rfl, e⟩
    · obtain ⟨u, hu, e⟩ := free_putV h1 h2 g h5 w hw
      exact ⟨u, by rw [free_bin, hu]; simp, e⟩
  | .qu q v f, m, ψ, h, w, hw => by
    simp only [putV] at h
    obtain ⟨u, h3, h4⟩ := Option.bind_eq_some_iff.1 h
    obtain ⟨f', h5, rfl⟩ := Option.map_eq_some_iff.1 h4
    rw [free_qu, Bool.and_eq_true, decide_eq_true_iff] at hw
    obtain ⟨z, hz, e⟩ := free_putV h1 h2 f h5 w hw.1
    have hv : z ≠ v := by
      rintro rfl
      unfold fput at e
      rw [if_pos rfl] at e
      exact hw.2 e
    refine ⟨z, by rw [free_qu, hz]; simpa using fun e => hv e.symm, ?_⟩
    unfold fput at e
    rw [if_neg hv] at e
    exact e
end Fm
theorem upto_putV {φ ψ χ α : Fm.T} {k : Nat} (h1 : Fm.Upto 1 φ) (h2 : Fm.Upto 2 ψ) (h3 : Fm.Upto k χ) (h : Fm.putV φ ψ χ id = some α) : Fm.Upto k α := fun w hw => by
  obtain ⟨u, hu, e⟩ := Fm.free_putV h1 h2 χ h w hw
  have e' : u = w := e
  rw [← e']
  exact h3 u hu
end Go.Proofs.YtdcnpjekmnlgjaaGreatDoor

namespace Go.Proofs.YtdcnpjekmnlgjaaGreatDoor
open Go.RowKit
set_option linter.unusedVariables false
set_option maxRecDepth 100000
namespace Fm
theorem vb_semi (v : Fin 4) : vb v ≠ 59 := by revert v; decide
theorem text_semi : ∀ φ : T, (59 : UInt8) ∉ text φ
  | .lit b => by cases b <;> decide
  | .set v => by simp [text, Ne.symm (vb_semi v)]
  | .rel e v w => by cases e <;> simp [text, Ne.symm (vb_semi v), Ne.symm (vb_semi w)]
  | .neg f => by simp [text, text_semi f]
  | .bin o f g => by cases o <;> simp [text, text_semi f, text_semi g]
  | .qu q v f => by cases q <;> simp [text, Q.byte, text_semi f, Ne.symm (vb_semi v)]
theorem closed_upto {φ : T} (h : Upto 0 φ) : free φ = 0 := by
  apply Nat.eq_of_testBit_eq
  intro i
  rw [Nat.zero_testBit]
  by_cases hi : i < 4
  · cases e : (free φ).testBit i with
    | false => rfl
    | true => exact absurd (h ⟨i, hi⟩ e) (Nat.not_lt_zero _)
  · exact Nat.testBit_lt_two_pow (Nat.lt_of_lt_of_le (free_lt φ) (Nat.pow_le_pow_right (Nat.succ_pos 1) (by omega : 4 ≤ i)))
end Fm
theorem read_semi {f : ByteArray} {φ : Fm.T} (h : readB f = some φ) : (59 : UInt8) ∉ f.data.toList := by
  rw [(Fm.read_iff (s := f.data.toList)).1 h |>.1]
  exact Fm.text_semi φ
theorem read_size {f : ByteArray} {φ : Fm.T} (h : readB f = some φ) : f.size ≤ 4000 := by
  have h := (Fm.read_iff (s := f.data.toList)).1 h
  have : f.size = f.data.toList.length := by simp
  omega
theorem read_no {f : ByteArray} {φ : Fm.T} (h : readB f = some φ) : (10 : UInt8) ∉ f.data.toList := (ge_no (read_ge h)).1
theorem hin_some {f : ByteArray} {φ : Fm.T} (h : readB f = some φ) (h0 : Fm.free φ = 0) (a : Gs.St) : hin f a = (Fm.holds a φ (fun _ => 0), true) := by
  unfold hin; rw [h]; simp only [h0, if_true]
theorem pb_closed {h f g k : ByteArray} {χ : Fm.T} (p : PbOk h f g k) (hr : readB h = some χ) (h0 : Fm.free χ = 0) : ∃ κ, readB k = some κ ∧ Fm.free κ = 0 := by
  obtain ⟨χ', φ, ψ, κ, h1, h2, h3, h4, h5, h6⟩ := p.parts
  rw [hr] at h1
  injection h1 with h1
  subst h1
  exact ⟨κ, h6, Fm.closed_upto (upto_putV h3 h4 (fun u hu => by rw [h0] at hu; simp at hu) h5)⟩
/-- A structure and a view of it, and a sentence that is pulled back. -/
structure VwOk (m : Nat) (S R TS TR h f g k : ByteArray) (b1 b2 b3 : Bool) : Prop where
  v : validB m S R = true
  u : validB m TS TR = true
  hr : ∃ χ, readB h = some χ ∧ Fm.free χ = 0
  kr : ∃ κ, readB k = some κ ∧ Fm.free κ = 0
  f59 : (59 : UInt8) ∉ f.data.toList
  g59 : (59 : UInt8) ∉ g.data.toList
  fz : f.size ≤ 4000
  gz : g.size ≤ 4000
  int : ∀ w, Calls Tryz.prog 5 #[strV m S R, .string f, .string g] w fun en w' => en = .returned (.tuple #[strV m TS TR, .bool true]) ∧ Below w.heap.size w w'
  pul : ∀ w, Calls Tryz.prog 7 #[.string h, .string f, .string g] w fun en w' => en = .returned (.tuple #[.string k, .bool true]) ∧ Below w.heap.size w w'
  t1 : hin h (stOf m TS TR) = (b1, true)
  t2 : hin h (stOf m S R) = (b2, true)
  t3 : hin k (stOf m S R) = (b1, true)
  t4 : hin k (stOf m TS TR) = (b3, true)
theorem view_steps (w0 : World) (m : Nat) (S R TS TR h f g k : ByteArray) (b1 b2 b3 : Bool) (H : VwOk m S R TS TR h f g k b1 b2 b3) :
    Steps w0 desk0 (viewLines (fmtS S R) h f g) (viewAns (fmtS S R) (fmtS TS TR) (truthB b1) (truthB b2) (truthB b3) k) := by
  obtain ⟨χ, hr, h0⟩ := H.hr
  obtain ⟨κ, kr, k0⟩ := H.kr
  have hz := read_size hr
  have kz := read_size kr
  have fz := H.fz
  have gz := H.gz
  have e1 : (⟨#[108, 101, 102, 116, 32]⟩ : ByteArray) = ⟨#[108, 101, 102, 116]⟩ ++ ⟨#[32]⟩ := ByteArray.ext (Array.toList_inj.1 rfl)
  have e2 : (⟨#[114, 105, 103, 104, 116, 32]⟩ : ByteArray) = ⟨#[114, 105, 103, 104, 116]⟩ ++ ⟨#[32]⟩ := ByteArray.ext (Array.toList_inj.1 rfl)
  have e3 : (⟨#[102, 111, 114, 109, 117, 108, 97, 32]⟩ : ByteArray) = ⟨#[102, 111, 114, 109, 117, 108, 97]⟩ ++ ⟨#[32]⟩ := ByteArray.ext (Array.toList_inj.1 rfl)
  have e4 : (⟨#[118, 105, 101, 119, 32]⟩ : ByteArray) ++ f ++ ⟨#[59]⟩ ++ g = ⟨#[118, 105, 101, 119]⟩ ++ ⟨#[32]⟩ ++ (f ++ ⟨#[59]⟩ ++ g) := by
    apply ByteArray.ext
    apply Array.toList_inj.1
    simp [ByteArray.data_append, Array.toList_append]
  have e5 : (⟨#[112, 117, 108, 108, 32]⟩ : ByteArray) ++ f ++ ⟨#[59]⟩ ++ g = ⟨#[112, 117, 108, 108]⟩ ++ ⟨#[32]⟩ ++ (f ++ ⟨#[59]⟩ ++ g) := by
    apply ByteArray.ext
    apply Array.toList_inj.1
    simp [ByteArray.data_append, Array.toList_append]
  unfold viewLines viewAns
  rw [e1, e2, e3, e4, e5]
  have R1 := run_left w0 desk0 m S R H.v
  have R2 := run_right w0 { desk0 with n := (m : Int), S := S, R := R } m S R H.v
  obtain ⟨d2, hd2⟩ : ∃ d2 : DS, { { desk0 with n := (m : Int), S := S, R := R } with m := (m : Int), T := S, U := R } = d2 := ⟨_, rfl⟩
  rw [hd2] at R2
  have R3 := run_formula w0 h χ hr hz d2
  obtain ⟨d3, hd3⟩ : ∃ d3 : DS, { d2 with f := h } = d3 := ⟨_, rfl⟩
  rw [hd3] at R3
  have n3 : d3.n = (m : Int) := by rw [← hd3, ← hd2]
  have S3 : d3.S = S := by rw [← hd3, ← hd2]
  have Q3 : d3.R = R := by rw [← hd3, ← hd2]
  have m3 : d3.m = (m : Int) := by rw [← hd3, ← hd2]
  have T3 : d3.T = S := by rw [← hd3, ← hd2]
  have U3 : d3.U = R := by rw [← hd3, ← hd2]
  have F3 : d3.f = h := by rw [← hd3]
  have R4 := run_view w0 d3 f g m TS TR n3 H.f59 H.g59 (by omega) H.u (by rw [S3, Q3]; exact H.int)
  obtain ⟨d4, hd4⟩ : ∃ d4 : DS, d3.left m TS TR = d4 := ⟨_, rfl⟩
  rw [hd4] at R4
  have n4 : d4.n = (m : Int) := by rw [← hd4]; rfl
  have S4 : d4.S = TS := by rw [← hd4]; rfl
  have Q4 : d4.R = TR := by rw [← hd4]; rfl
  have m4 : d4.m = (m : Int) := by rw [← hd4]; exact m3
  have T4 : d4.T = S := by rw [← hd4]; exact T3
  have U4 : d4.U = R := by rw [← hd4]; exact U3
  have F4 : d4.f = h := by rw [← hd4]; exact F3
  have R5 := run_holds w0 d4 m m b1 b2 n4 m4 (by rw [F4]; omega) (by rw [S4, Q4]; exact H.u) (by rw [T4, U4]; exact H.v) (by rw [F4, S4, Q4]; exact H.t1) (by rw [F4, T4, U4]; exact H.t2)
  have R6 := run_pull w0 d4 f g k H.f59 H.g59 (by omega) (by rw [F4]; exact H.pul)
  obtain ⟨d6, hd6⟩ : ∃ d6 : DS, { d4 with f := k } = d6 := ⟨_, rfl⟩
  rw [hd6] at R6
  have n6 : d6.n = (m : Int) := by rw [← hd6]; exact n4
  have S6 : d6.S = TS := by rw [← hd6]; exact S4
  have Q6 : d6.R = TR := by rw [← hd6]; exact Q4
  have m6 : d6.m = (m : Int) := by rw [← hd6]; exact m4
  have T6 : d6.T = S := by rw [← hd6]; exact T4
  have U6 : d6.U = R := by rw [← hd6]; exact U4
  have F6 : d6.f = k := by rw [← hd6]
  have R7 := run_exchange w0 d6 m m6 (by rw [T6, U6]; exact H.v)
  rw [T6, U6] at R7
  have R8 := run_holds w0 d6.swap m m b1 b3 m6 n6 (by show d6.f.size ≤ _; rw [F6]; omega) (by show validB m d6.T d6.U = true; rw [T6, U6]; exact H.v) (by show validB m d6.S d6.R = true; rw [S6, Q6]; exact H.u) (by show hin d6.f (stOf m d6.T d6.U) = _; rw [F6, T6, U6]; exact H.t3) (by show hin d6.f (stOf m d6.S d6.R) = _; rw [F6, S6, Q6]; exact H.t4)
  exact ⟨_, R1, _, R2, _, R3, _, R4, _, R5, _, R6, _, R7, _, R8, trivial⟩
end Go.Proofs.YtdcnpjekmnlgjaaGreatDoor
