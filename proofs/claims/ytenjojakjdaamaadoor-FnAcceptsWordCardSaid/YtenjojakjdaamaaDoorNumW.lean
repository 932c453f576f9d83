/- The reference's l12Word: the word with a number. Condition: at most eight letters. -/
import Derived.Test.YtenjojakjdaamaaDoorTexts
import Derived.Test.YtenjojakjdaamaaDoorNum
import Derived.IntWalk
import Derived.Test.YtenjojakjdaamaaDoorHolds
import Derived.Test.YtenjojakjdaamaaDoorDrawF
namespace Go.Proofs.YtenjojakjdaamaaDoor
open Go.RowKit
set_option linter.unusedVariables false

theorem b_assoc' (a b c : ByteArray) : a ++ b ++ c = a ++ (b ++ c) := by
  apply ByteArray.ext
  simp [ByteArray.data_append, Array.append_assoc]
theorem b_nil' (a : ByteArray) : a ++ ByteArray.empty = a := by
  apply ByteArray.ext
  simp
/-- The letter of a bit. -/
def letS (b : Nat) : ByteArray := if b = 0 then ⟨#[120]⟩ else ⟨#[121]⟩
/-- The word with a number. -/
def numW : Nat → Nat → ByteArray
  | 0, _ => ByteArray.empty
  | l + 1, n => numW l (n / 2) ++ letS (n % 2)
theorem numW_all : ∀ l, (List.range (2 ^ l)).map (numW l) = allW l
  | 0 => rfl
  | l + 1 => by
    have ih := numW_all l
    have h : ∀ m, (List.range (2 * m)).map (numW (l + 1)) = ((List.range m).map (numW l)).flatMap fun u => [u ++ ⟨#[120]⟩, u ++ ⟨#[121]⟩] := by
      intro m
      induction m with
      | zero => rfl
      | succ m ih =>
        rw [show 2 * (m + 1) = 2 * m + 1 + 1 by omega, List.range_succ, List.range_succ, List.range_succ]
        simp only [List.map_append, List.flatMap_append, ih, List.map_cons, List.map_nil, List.append_assoc]
        congr 1
        simp only [numW, List.flatMap_cons, List.flatMap_nil, List.append_nil, List.cons_append, List.nil_append]
        rw [show 2 * m / 2 = m by omega, show 2 * m % 2 = 0 by omega, show (2 * m + 1) / 2 = m by omega, show (2 * m + 1) % 2 = 1 by omega]
        rfl
    rw [Nat.pow_succ, Nat.mul_comm, h, ih]
    rfl
/-- The word's last letters, from the bit i - 1 on. -/
def tailW (n : Nat) : Nat → ByteArray
  | 0 => ByteArray.empty
  | i + 1 => letS (n / 2 ^ i % 2) ++ tailW n i
theorem tailW_num (n : Nat) : ∀ l, tailW n l = numW l (n % 2 ^ l) := by
  intro l
  induction l generalizing n with
  | zero => rfl
  | succ l ih =>
    have key : ∀ n l, tailW n (l + 1) = tailW (n / 2) l ++ letS (n % 2) := by
      intro n l
      induction l with
      | zero => simp [tailW]
      | succ l ih2 =>
        rw [tailW, ih2]
        show _ = (letS (n / 2 / 2 ^ l % 2) ++ tailW (n / 2) l) ++ letS (n % 2)
        rw [b_assoc', Nat.div_div_eq_div_mul, Nat.pow_succ, Nat.mul_comm]
    rw [key, ih]
    have e1 : n % 2 ^ (l + 1) / 2 = n / 2 % 2 ^ l := by
      rw [Nat.pow_succ, Nat.mul_comm, Nat.mod_mul_right_div_self]
    have e2 : n % 2 ^ (l + 1) % 2 = n % 2 := by
      rw [Nat.pow_succ, Nat.mul_comm, Nat.mod_mul_right_mod]
    simp only [numW, e1, e2]

theorem ofInt_i64' (a : Nat) (ha : a < 9223372036854775808) : (BitVec.ofInt 64 (a : Int)).toNat = a := by
  rw [BitVec.ofInt_natCast, BitVec.toNat_ofNat]; exact Nat.mod_eq_of_lt (by omega)
theorem i64_and1 (a : Nat) (ha : a < 9223372036854775808) : bits .and .i64 (a : Int) 1 = ((a % 2 : Nat) : Int) := by
  show IntKind.i64.wrap ((BitVec.ofInt 64 (a : Int) &&& BitVec.ofInt 64 ((1 : Nat) : Int)).toNat : Int) = _
  rw [BitVec.toNat_and, ofInt_i64' a ha, ofInt_i64' 1 (by omega), Nat.and_one_is_mod]
  exact IntWalk.i64_in _ (by omega)

end Go.Proofs.YtenjojakjdaamaaDoor
/- The words of which a sentence is true: WordsOf of the program and of the reference. Condition: the text's length fits an integer. -/
namespace Go.Proofs.YtenjojakjdaamaaDoor
open Go.RowKit
set_option linter.unusedVariables false
set_option maxRecDepth 100000

/-- The plain form of a word's structure. -/
def wSt' (s : ByteArray) : Gs.St := stOf s.size (bitsOf (letB s) s.size) (gridOf ltB s.size)
def env0 : Fm.Env := fun _ => 0
/-- The words of a length of which a sentence is true. -/
def truW (φ : Fm.T) (z : Nat) : List ByteArray := (allW z).filter fun u => Fm.holds (wSt' u) φ env0
def truB (φ : Fm.T) (z : Nat) (u : ByteArray) : Bool := decide (u.size = z) && Fm.holds (wSt' u) φ env0
theorem truW_up (φ : Fm.T) (z : Nat) : (upTo z).filter (truB φ z) = if z = 0 then [] else truW φ z := by
  cases z with
  | zero => rfl
  | succ z =>
    rw [if_neg (by omega)]
    unfold upTo truW
    rw [List.filter_append]
    have h1 : (upTo z).filter (truB φ (z + 1)) = [] := List.filter_eq_nil_iff.2 fun u hu => by
      have := upTo_size z u hu
      unfold truB
      rw [decide_eq_false (by omega)]; simp
    rw [h1, List.nil_append]
    apply List.filter_congr
    intro u hu
    have := allW_size (z + 1) u hu
    unfold truB
    rw [decide_eq_true this, Bool.true_and]
theorem truTo_succ (p : ByteArray → Bool) (L : List ByteArray) (i : Nat) (hi : i < L.length) : (L.take (i + 1)).filter p = if p (L.getD i ByteArray.empty) then (L.take i).filter p ++ [L.getD i ByteArray.empty] else (L.take i).filter p := by
  have e : L.getD i ByteArray.empty = L[i] := by simp [hi]
  rw [e, List.take_succ_eq_append_getElem hi, List.filter_append]
  cases h : p L[i] <;> simp [h]
/-- The sentence's words. -/
def wordsRes (f : ByteArray) (z : Int) : Option (List ByteArray) :=
  match readB f with
  | none => none
  | some φ => if Fm.free φ = 0 ∧ 1 ≤ z ∧ z ≤ 8 then some (truW φ z.toNat) else none
theorem wordsRes_none {f : ByteArray} {z : Int} (h : readB f = none) : wordsRes f z = none := by unfold wordsRes; rw [h]
theorem wordsRes_some {f : ByteArray} {z : Int} {φ : Fm.T} (h : readB f = some φ) : wordsRes f z = if Fm.free φ = 0 ∧ 1 ≤ z ∧ z ≤ 8 then some (truW φ z.toNat) else none := by unfold wordsRes; rw [h]
/-- What WordsOf leaves. -/
def WdsP (w : World) (r : Option (List ByteArray)) (e : Ending) (w' : World) : Prop :=
  Below w.heap.size w w' ∧ ((r = none ∧ ∃ v, e = .returned (.tuple #[v, .bool false]) ∧ (v = .slice none 0 0 ∨ OwnS w.heap.size w' v [])) ∨ ∃ v L, r = some L ∧ e = .returned (.tuple #[v, .bool true]) ∧ OwnS w.heap.size w' v L)

/-- What the program's loop keeps. -/
structure Wp (w wr : World) (F : Nat → Prop) (φ : Fm.T) (p : Nat) (W : List ByteArray) (vw vo : Value) (L : List ByteArray) : Prop where
  out : OwnS w.heap.size wr vo L
  words : OwnS w.heap.size wr vw W
  ne : vo.ownBlock ≠ vw.ownBlock
  old : Below w.heap.size w wr
  tree : Tree F wr φ p
  apart : ∀ k, vo.ownBlock = some k → ¬ F k
  low : ∀ b, F b → b < wr.heap.size
section
variable {w wr w' : World} {F : Nat → Prop} {φ : Fm.T} {p : Nat} {W : List ByteArray} {vw vo vo' : Value} {L L' : List ByteArray}
theorem Wp.below (h : Wp w wr F φ p W vw vo L) (hb : Below wr.heap.size wr w') : Wp w w' F φ p W vw vo L :=
  ⟨h.out.below hb, h.words.below hb, h.ne, h.old.trans (hb.mono h.old.size), h.tree.below hb, h.apart, fun b hf => Nat.lt_of_lt_of_le (h.low b hf) hb.size⟩
theorem Wp.push {o : Obj} (h : Wp w wr F φ p W vw vo L) (hown : OwnS w.heap.size w' vo' L') (hg : (wr.alloc o).grownBy w' vo.ownBlock)
    (hat : vo'.ownBlock = vo.ownBlock ∨ ∃ k, vo'.ownBlock = some k ∧ (wr.alloc o).heap.size ≤ k) : Wp w w' F φ p W vw vo' L' := by
  obtain ⟨k2, e2, _, l2⟩ := h.words.block
  obtain ⟨k1, e1, l1, _⟩ := h.out.block
  have al : Below wr.heap.size wr (wr.alloc o) := (Below.refl _ _).alloc (Nat.le_refl _) _
  have hs : (wr.alloc o).heap.size = wr.heap.size + 1 := by simp
  have hw := h.old.size
  have hoff : Off (fun b => vo.ownBlock = some b) (wr.alloc o) w' := Off.grown hg (fun b e => e)
  refine ⟨hown, (h.words.below al).grown hg (Ne.symm h.ne), ?_, (h.old.alloc hw _).grown hg (by omega) (fun j hj => ?_), (h.tree.below al).off hoff (fun b hb e => h.apart b e hb), fun k hk hf => ?_, fun b hf => Nat.lt_of_lt_of_le (h.low b hf) (Nat.le_trans al.size hg.size)⟩
  · rcases hat with h1 | ⟨j, h1, h2⟩
    · rw [h1]; exact h.ne
    · rw [h1, e2]
      intro e
      have := Option.some.inj e
      omega
  · rw [e1] at hj
    obtain rfl := Option.some.inj hj
    exact l1
  · rcases hat with h1 | ⟨j, h1, h2⟩
    · exact h.apart k (h1 ▸ hk) hf
    · rw [h1] at hk
      obtain rfl := Option.some.inj hk
      have := h.low _ hf
      omega
end
theorem l11View_0 (f : ByteArray) (hf : f.size ≤ 9223372036854775807) (w : World) : Calls Tryd.prog 80 #[.string f, .int .i64 0] w fun en w' => en = .returned (.bool (okV f 1)) ∧ w' = w := by
  have HFV := Lib.hid (fun w => FormulaValid_any f w hf)
  cases hr : readB f with
  | none =>
    have HO := Lib.hid (okV_none (d := 1) hr)
    rw [hr] at HFV
    clear hr
    go_enter Tryd.func80, Tryd.ntmps80
    go_wp2_with fail
    refine (HFV.out _).mono ?_; rintro _ w2 ⟨rfl, hw2⟩; rw [hw2]; clear hw2 w2
    go_wp2_with fail
    go_ret
    exact ⟨ret_bool HO.out.symm, rfl⟩
  | some φ =>
    have HO := Lib.hid (okV_some (d := 1) hr)
    rw [hr] at HFV
    have HAT := readB_at hr
    have HLF : Hid (∀ w, Calls Tryd.prog 141 #[.string f, .int .i64 0] w fun e w' => e = .returned (.tuple #[.int .i64 ((Fm.free φ : Nat) : Int), .int .i64 ((0 + Fm.len φ : Nat) : Int)]) ∧ w' = w) := fun w => l2Free_any f (by have := HAT.2; omega) φ 0 0 w rfl HAT.1
    have hfl := Fm.free_lt φ
    clear hr HAT
    generalize Fm.free φ = fr at *
    go_enter Tryd.func80, Tryd.ntmps80
    go_wp2_with fail
    refine (HFV.out _).mono ?_; rintro _ w2 ⟨rfl, hw2⟩; rw [hw2]; clear hw2 w2
    go_wp2_with fail
    refine (HLF.out _).mono ?_; rintro _ w2 ⟨rfl, hw2⟩; rw [hw2]; clear hw2 w2
    go_wp2_with fail
    go_ret
    refine ⟨ret_bool ?_, rfl⟩
    rw [HO.out, Nat.div_one, Bool.eq_iff_iff, beq_iff_eq, decide_eq_true_eq]; omega
theorem wordsRes_is (f : ByteArray) (z : Int) : (wordsRes f z = none ∧ (okV f 1 = false ∨ inB z 1 8 = false)) ∨ ∃ φ, readB f = some φ ∧ okV f 1 = true ∧ inB z 1 8 = true ∧ wordsRes f z = some (truW φ z.toNat) := by
  cases hr : readB f with
  | none => exact .inl ⟨wordsRes_none hr, .inl (okV_none hr)⟩
  | some φ =>
    by_cases h : Fm.free φ = 0 ∧ 1 ≤ z ∧ z ≤ 8
    · exact .inr ⟨φ, rfl, by rw [okV_some hr, decide_eq_true_iff, Nat.div_one]; exact h.1, inB_iff.2 h.2, by rw [wordsRes_some hr, if_pos h]⟩
    · refine .inl ⟨by rw [wordsRes_some hr, if_neg h], ?_⟩
      by_cases h1 : Fm.free φ = 0
      · refine .inr ?_
        cases hb : inB z 1 8
        · rfl
        · exact absurd ⟨h1, inB_iff.1 hb⟩ h
      · exact .inl (by rw [okV_some hr, decide_eq_false_iff_not, Nat.div_one]; exact h1)
/-- What the reference's loop keeps. -/
structure Ws (w wr : World) (v : Value) (L : List ByteArray) : Prop where
  out : OwnS w.heap.size wr v L
  old : Below w.heap.size w wr
end Go.Proofs.YtenjojakjdaamaaDoor
/- Plain facts of the words of which a sentence is true. -/
namespace Go.Proofs.YtenjojakjdaamaaDoor
open Go.RowKit

theorem less_tail : ∀ (a b : List UInt8) (x y : UInt8), a.length = b.length → Op.bytesLess a b = true → Op.bytesLess (a ++ [x]) (b ++ [y]) = true
  | [], [], x, y, _, h => by simp [Op.bytesLess] at h
  | c :: a, d :: b, x, y, hl, h => by
    simp only [Op.bytesLess, List.cons_append, Bool.or_eq_true, Bool.and_eq_true] at h ⊢
    rcases h with h | ⟨h1, h2⟩
    · exact .inl h
    · exact .inr ⟨h1, less_tail a b x y (by simpa using hl) h2⟩
theorem less_last : ∀ (a : List UInt8) (x y : UInt8), x < y → Op.bytesLess (a ++ [x]) (a ++ [y]) = true
  | [], x, y, h => by simp [Op.bytesLess, h]
  | c :: a, x, y, h => by simp [Op.bytesLess, less_last a x y h]
/-- One text stands before another. -/
def LB (a b : ByteArray) : Prop := Op.bytesLess a.toList b.toList = true
theorem allW_sorted : ∀ n, (allW n).Pairwise LB
  | 0 => by simp [allW]
  | n + 1 => by
    rw [allW, List.pairwise_flatMap]
    refine ⟨fun u _ => ?_, ?_⟩
    · refine List.Pairwise.cons (fun v hv => ?_) (List.pairwise_singleton _ _)
      obtain rfl : v = _ := by simpa using hv
      unfold LB
      rw [ByteArray.toList_eq, ByteArray.toList_eq, ByteArray.data_append, ByteArray.data_append, Array.toList_append, Array.toList_append]
      exact less_last _ _ _ (by decide)
    · refine (allW_sorted n).imp_of_mem ?_
      intro a b ha hb hab x hx y hy
      have h1 := allW_size n a ha
      have h2 := allW_size n b hb
      simp at hx hy
      rcases hx with rfl | rfl <;> rcases hy with rfl | rfl <;> (unfold LB at hab ⊢; rw [ByteArray.toList_eq, ByteArray.toList_eq] at hab; rw [ByteArray.toList_eq, ByteArray.toList_eq, ByteArray.data_append, ByteArray.data_append, Array.toList_append, Array.toList_append]; exact less_tail _ _ _ _ (by simp; omega) hab)
theorem truW_sorted (φ : Fm.T) (n : Nat) : (truW φ n).Pairwise LB := (allW_sorted n).filter _
theorem truW_size {φ : Fm.T} {n : Nat} {u : ByteArray} (h : u ∈ truW φ n) : u.size = n := allW_size n u (List.mem_filter.1 h).1
theorem allW_xy : ∀ (n : Nat) (u : ByteArray), u ∈ allW n → u.data.toList.all isXY = true
  | 0, u, h => by simp [allW] at h; subst h; rfl
  | n + 1, u, h => by
    obtain ⟨x, hx, hu⟩ := List.mem_flatMap.1 h
    have := allW_xy n x hx
    simp at hu
    rcases hu with rfl | rfl <;> (simp only [ByteArray.data_append, Array.toList_append, List.all_append, this]; decide)
theorem allW_word {n : Nat} (h1 : 1 ≤ n) (h8 : n ≤ 8) {u : ByteArray} (h : u ∈ allW n) : wordB u = true := by
  unfold wordB
  rw [Bool.and_eq_true]
  exact ⟨inB_iff.2 (by have := allW_size n u h; omega), allW_xy n u h⟩
theorem accW_tru {f u : ByteArray} {φ : Fm.T} {n : Nat} (hr : readB f = some φ) (h0 : Fm.free φ = 0) (h1 : 1 ≤ n) (h8 : n ≤ 8) (h : u ∈ truW φ n) : accW f u = (true, true) := by
  obtain ⟨ha, hb⟩ := List.mem_filter.1 h
  unfold accW
  rw [if_pos (allW_word h1 h8 ha)]
  unfold hin
  rw [hr]
  simp only [if_pos h0]
  exact congrArg (·, true) hb
theorem truW_neg (φ : Fm.T) (n : Nat) : (truW φ n).length + (truW (.neg φ) n).length = 2 ^ n := by
  rw [← allW_length n]
  unfold truW
  generalize allW n = l
  induction l with
  | nil => rfl
  | cons u l ih =>
    have hn : ∀ v, Fm.holds (wSt' v) (.neg φ) env0 = !Fm.holds (wSt' v) φ env0 := fun v => rfl
    simp only [hn] at ih ⊢
    simp only [List.filter_cons]
    cases Fm.holds (wSt' u) φ env0 <;> simp <;> omega
theorem readB_neg {f : ByteArray} {φ : Fm.T} (h : readB f = some φ) (hf : f.size ≤ 3999) : readB (⟨#[33]⟩ ++ f) = some (.neg φ) := by
  unfold readB at h ⊢
  obtain ⟨h1, h2⟩ := Fm.read_iff.1 h
  refine Fm.read_iff.2 ⟨?_, ?_⟩
  · simp [Fm.text, h1]
  · simp; omega
theorem free_neg (φ : Fm.T) : Fm.free (.neg φ) = Fm.free φ := rfl
end Go.Proofs.YtenjojakjdaamaaDoor
/- The walk of the law FnWordsOf: it returns true. Condition: the bytes are readable. -/
namespace Go.Proofs.YtenjojakjdaamaaDoor
open Go.RowKit
set_option linter.unusedVariables false
set_option maxRecDepth 100000

theorem rowLen {k : IntKind} {w : World} {a : Option Addr} {len cap : Nat} {zs : List Int} (h : IsRow k w a len cap zs) : len ≤ maxLen := by
  rcases h with ⟨rfl, rfl, rfl, rfl⟩ | ⟨x, rfl, h2, h3, h4, h5, h6⟩ <;> omega
/-- What WordsOf leaves, as texts and a truth. -/
def WdsX (w : World) (L : List ByteArray) (b : Bool) (e : Ending) (w' : World) : Prop := ∃ v, e = .returned (.tuple #[v, .bool b]) ∧ TextsAt w' v L ∧ Below w.heap.size w w'
theorem WdsP.x {w : World} {r : Option (List ByteArray)} {e : Ending} {w' : World} (h : WdsP w r e w') : WdsX w (r.getD []) r.isSome e w' := by
  obtain ⟨hb, ⟨rfl, v, rfl, hv⟩ | ⟨v, L, rfl, rfl, hv⟩⟩ := h
  · refine ⟨v, rfl, ?_, hb⟩
    rcases hv with rfl | h
    · exact TextsAt.nil _
    · exact h.texts
  · exact ⟨v, rfl, hv.texts, hb⟩
/-- What the law asks of the words. -/
structure WdsF (f : ByteArray) (n : Nat) (L M : List ByteArray) : Prop where
  size : ∀ i, i < L.length → (L.getD i ByteArray.empty).size = n
  acc : ∀ i, i < L.length → accW f (L.getD i ByteArray.empty) = (true, true)
  up : ∀ i, 0 < i → i < L.length → Op.bytesLess (L.getD (i - 1) ByteArray.empty).toList (L.getD i ByteArray.empty).toList = true
  all : L.length + M.length = 2 ^ n
theorem wdsF {f : ByteArray} {φ : Fm.T} {n : Nat} (hr : readB f = some φ) (h0 : Fm.free φ = 0) (h1 : 1 ≤ n) (h8 : n ≤ 8) : WdsF f n (truW φ n) (truW (.neg φ) n) := by
  have hm : ∀ i, i < (truW φ n).length → (truW φ n).getD i ByteArray.empty ∈ truW φ n := fun i hi => by simp [hi]
  refine ⟨fun i hi => truW_size (hm i hi), fun i hi => accW_tru hr h0 h1 h8 (hm i hi), fun i hi hl => ?_, truW_neg φ n⟩
  have h := List.pairwise_iff_getElem.1 (truW_sorted φ n) (i - 1) i (by omega) hl (by omega)
  have e1 : (truW φ n).getD i ByteArray.empty = (truW φ n)[i] := by simp [hl]
  have e2 : (truW φ n).getD (i - 1) ByteArray.empty = (truW φ n)[i - 1]'(by omega) := by simp [show i - 1 < (truW φ n).length by omega]
  rw [e1, e2]; exact h

end Go.Proofs.YtenjojakjdaamaaDoor
