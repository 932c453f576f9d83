/- Contracts of the program's functions and what they compute: part 2. Conditions: those that each theorem states. -/
import Derived.Test.YtnhlhjehocngcaaGreatDoorP50n1
import Derived.Lib.ItoaNum
import Derived.Deep.RegionHeld3
import Derived.Deep.DeepCutAuto
import Derived.Laws.ResultCell
import Derived.OneCell
import Derived.IntWalk
namespace Go.Proofs.YtnhlhjehocngcaaGreatDoor.Gs
/-- A structure: how many elements, which are in the set, which are related. -/
structure St where
  n : Nat
  s : Nat → Bool
  r : Nat → Nat → Bool
def bitU (b : Bool) : UInt8 := if b then 49 else 48
theorem bitU_inj {a b : Bool} (h : bitU a = bitU b) : a = b := by
  cases a <;> cases b <;> first | rfl | (revert h; decide)
/-- The atoms of an element behind others. -/
def atomsAt (a : St) (asL : List Nat) (x : Nat) : List UInt8 :=
  bitU (a.s x) :: ((asL ++ [x]).flatMap fun y => [bitU (decide (x = y)), bitU (a.r x y), bitU (a.r y x)])
def atomsTo (a : St) (asL : List Nat) : Nat → List UInt8
  | 0 => []
  | i + 1 => atomsTo a asL i ++ atomsAt a (asL.take i) (asL.getD i 0)
/-- The atoms of a list. -/
def atoms (a : St) (asL : List Nat) : List UInt8 := atomsTo a asL asL.length
theorem atomsTo_more (a : St) (asL : List Nat) (x : Nat) (i : Nat) (h : i ≤ asL.length) : atomsTo a (asL ++ [x]) i = atomsTo a asL i := by
  induction i with
  | zero => rfl
  | succ i ih =>
    have hi : i < asL.length := by omega
    simp only [atomsTo]
    rw [ih (by omega), List.take_append_of_le_length (by omega)]
    congr 2
    simp [List.getElem?_append_left hi]
theorem atoms_snoc (a : St) (asL : List Nat) (x : Nat) : atoms a (asL ++ [x]) = atoms a asL ++ atomsAt a asL x := by
  unfold atoms
  rw [List.length_append, List.length_singleton]
  simp only [atomsTo]
  rw [atomsTo_more a asL x _ (Nat.le_refl _)]
  simp
theorem atomsAt_length (a : St) (asL : List Nat) (x : Nat) : (atomsAt a asL x).length = 4 + 3 * asL.length := by
  have h : ∀ l : List Nat, (l.flatMap fun y => [bitU (decide (x = y)), bitU (a.r x y), bitU (a.r y x)]).length = 3 * l.length := by
    intro l
    induction l with
    | nil => rfl
    | cons y l ih => simp only [List.flatMap_cons, List.length_append, List.length_cons, List.length_nil, ih]; omega
  unfold atomsAt
  rw [List.length_cons, h]
  simp; omega
theorem atomsTo_length (a b : St) (asL bs : List Nat) (_ha : ∀ i, i ≤ asL.length → True) (i : Nat) (h : i ≤ asL.length) (h' : i ≤ bs.length) : (atomsTo a asL i).length = (atomsTo b bs i).length := by
  induction i with
  | zero => rfl
  | succ i ih =>
    simp only [atomsTo, List.length_append, atomsAt_length, List.length_take]
    rw [ih (by omega) (by omega)]
    omega
/-- One more element on each side, in the same way. -/
def still (a : St) (asL : List Nat) (b : St) (bs : List Nat) (x y : Nat) : Bool :=
  (a.s x == b.s y) && (a.r x x == b.r y y) && (asL.zip bs).all fun p => ((decide (p.1 = x)) == (decide (p.2 = y))) && (a.r p.1 x == b.r p.2 y) && (a.r x p.1 == b.r y p.2)
def same (a : St) (asL : List Nat) (b : St) (bs : List Nat) : Bool :=
  (List.range asL.length).all fun i => still a (asL.take i) b (bs.take i) (asL.getD i 0) (bs.getD i 0)
theorem same_snoc {a b : St} {asL bs : List Nat} {x y : Nat} (hl : asL.length = bs.length) : same a (asL ++ [x]) b (bs ++ [y]) = (same a asL b bs && still a asL b bs x y) := by
  unfold same
  rw [List.length_append, List.length_singleton, List.range_succ, List.all_append]
  congr 1
  · rw [Bool.eq_iff_iff, List.all_eq_true, List.all_eq_true]
    have key : ∀ i, i ∈ List.range asL.length → still a ((asL ++ [x]).take i) b ((bs ++ [y]).take i) ((asL ++ [x]).getD i 0) ((bs ++ [y]).getD i 0) = still a (asL.take i) b (bs.take i) (asL.getD i 0) (bs.getD i 0) := by
      intro i hi
      have hi := List.mem_range.1 hi
      rw [List.take_append_of_le_length (by omega), List.take_append_of_le_length (by omega)]
      simp [List.getElem?_append_left hi, List.getElem?_append_left (show i < bs.length by omega)]
    constructor
    · intro h i hi; rw [← key i hi]; exact h i hi
    · intro h i hi; rw [key i hi]; exact h i hi
  · simp [hl]
theorem flat_eq {a b : St} {x y : Nat} : ∀ (asL bs : List Nat), asL.length = bs.length →
    ((asL.flatMap fun v => [bitU (decide (x = v)), bitU (a.r x v), bitU (a.r v x)]) = (bs.flatMap fun v => [bitU (decide (y = v)), bitU (b.r y v), bitU (b.r v y)]) ↔
      ∀ p ∈ asL.zip bs, decide (p.1 = x) = decide (p.2 = y) ∧ a.r p.1 x = b.r p.2 y ∧ a.r x p.1 = b.r y p.2)
  | [], [], _ => by simp
  | [], _ :: _, h => by simp at h
  | _ :: _, [], h => by simp at h
  | v :: asL, w :: bs, h => by
    have ih := flat_eq (a := a) (b := b) (x := x) (y := y) asL bs (by simpa using h)
    simp only [List.flatMap_cons, List.cons_append, List.nil_append, List.cons.injEq, List.zip_cons_cons, List.mem_cons, forall_eq_or_imp, ih]
    constructor
    · rintro ⟨h1, h2, h3, h4⟩
      refine ⟨⟨?_, bitU_inj h3, bitU_inj h2⟩, h4⟩
      have := bitU_inj h1
      rw [decide_eq_decide] at this ⊢
      constructor
      · intro e; exact (this.1 e.symm).symm
      · intro e; exact (this.2 e.symm).symm
    · rintro ⟨⟨h1, h2, h3⟩, h4⟩
      refine ⟨?_, by rw [h3], by rw [h2], h4⟩
      congr 1
      rw [decide_eq_decide] at h1 ⊢
      constructor
      · intro e; exact (h1.1 e.symm).symm
      · intro e; exact (h1.2 e.symm).symm
theorem atomsAt_eq {a b : St} {asL bs : List Nat} {x y : Nat} (hl : asL.length = bs.length) : atomsAt a asL x = atomsAt b bs y ↔ still a asL b bs x y = true := by
  unfold atomsAt still
  rw [List.cons.injEq, flat_eq _ _ (by simp [hl])]
  rw [List.zip_append hl]
  simp only [List.mem_append, Bool.and_eq_true, beq_iff_eq, List.all_eq_true]
  constructor
  · rintro ⟨h1, h2⟩
    refine ⟨⟨bitU_inj h1, ?_⟩, fun p hp => ?_⟩
    · exact (h2 (x, y) (.inr (by simp))).2.1
    · have := h2 p (.inl hp)
      exact ⟨⟨this.1, this.2.1⟩, this.2.2⟩
  · rintro ⟨⟨h1, h2⟩, h3⟩
    refine ⟨by rw [h1], fun p hp => ?_⟩
    rcases hp with hp | hp
    · have := h3 p hp
      exact ⟨this.1.1, this.1.2, this.2⟩
    · simp at hp
      subst hp
      exact ⟨by simp, h2, h2⟩
theorem append_inj_len {α : Type} {a b c d : List α} (h : a ++ b = c ++ d) (hl : a.length = c.length) : a = c ∧ b = d := List.append_inj h hl
theorem list_snoc {α : Type} (l : List α) : l = [] ∨ ∃ m x, l = m ++ [x] := by
  rcases List.eq_nil_or_concat l with h | ⟨m, x, h⟩
  · exact .inl h
  · exact .inr ⟨m, x, by simpa using h⟩
theorem same_iff {a b : St} : ∀ (n : Nat) (asL bs : List Nat), asL.length = n → bs.length = n → (same a asL b bs = true ↔ atoms a asL = atoms b bs) := by
  intro n
  induction n with
  | zero =>
    intro asL bs ha hb
    obtain rfl := List.eq_nil_of_length_eq_zero ha
    obtain rfl := List.eq_nil_of_length_eq_zero hb
    simp [same, atoms, atomsTo]
  | succ n ih =>
    intro asL bs ha hb
    rcases list_snoc asL with rfl | ⟨asL, x, rfl⟩
    · simp at ha
    rcases list_snoc bs with rfl | ⟨bs, y, rfl⟩
    · simp at hb
    simp at ha hb
    have hl : asL.length = bs.length := by omega
    rw [same_snoc hl, Bool.and_eq_true, ih asL bs ha hb, ← atomsAt_eq hl, atoms_snoc, atoms_snoc]
    constructor
    · rintro ⟨h1, h2⟩; rw [h1, h2]
    · intro h
      exact append_inj_len h (atomsTo_length a b asL bs (fun _ _ => trivial) asL.length (Nat.le_refl _) (by omega) |>.trans (by unfold atoms; rw [hl]))
/-- The second player wins asL many rounds. -/
def goes : Nat → (a : St) → List Nat → (b : St) → List Nat → Bool
  | 0, _, _, _, _ => true
  | k + 1, a, asL, b, bs =>
    ((List.range a.n).all fun x => (List.range b.n).any fun y => still a asL b bs x y && goes k a (asL ++ [x]) b (bs ++ [y])) &&
    ((List.range b.n).all fun y => (List.range a.n).any fun x => still b bs a asL y x && goes k b (bs ++ [y]) a (asL ++ [x]))
def wins (k : Nat) (a : St) (asL : List Nat) (b : St) (bs : List Nat) : Bool := same a asL b bs && goes k a asL b bs
end Go.Proofs.YtnhlhjehocngcaaGreatDoor.Gs
namespace Go.Proofs.YtnhlhjehocngcaaGreatDoor.Gs
set_option linter.unusedVariables false
theorem dig_ne (u : Nat) : ∀ c ∈ Lib.decDigits u, 48 ≤ c.toNat ∧ c.toNat ≤ 57 := by
  induction u using Nat.strongRecOn with
  | _ u ih =>
    have hd : ∀ d, d < 10 → 48 ≤ (UInt8.ofNat (48 + d)).toNat ∧ (UInt8.ofNat (48 + d)).toNat ≤ 57 := by
      intro d hd
      have e : (UInt8.ofNat (48 + d)).toNat = (48 + d) % 256 := rfl
      rw [e]
      omega
    intro c hc
    rw [Lib.decDigits] at hc
    by_cases h : u < 10
    · rw [dif_pos h] at hc
      rw [List.mem_singleton.1 hc]
      exact hd u h
    · rw [dif_neg h] at hc
      rcases List.mem_append.1 hc with hc | hc
      · exact ih (u / 10) (by omega) c hc
      · rw [List.mem_singleton.1 hc]
        exact hd _ (by omega)
theorem dig_inj : ∀ (u v : Nat), Lib.decDigits u = Lib.decDigits v → u = v := by
  intro u
  induction u using Nat.strongRecOn with
  | _ u ih =>
    have key : ∀ a b, a < 10 → b < 10 → UInt8.ofNat (48 + a) = UInt8.ofNat (48 + b) → a = b := by
      intro a b ha hb h
      have h1 : (48 + a) % 256 = (48 + b) % 256 := congrArg UInt8.toNat h
      omega
    have pos : ∀ n, 0 < (Lib.decDigits n).length := by
      intro n; rw [Lib.decDigits]; split <;> simp
    intro v h
    have e1 := Lib.decDigits.eq_1 u
    have e2 := Lib.decDigits.eq_1 v
    rw [e1, e2] at h
    by_cases hu : u < 10
    · rw [dif_pos hu] at h
      by_cases hv : v < 10
      · rw [dif_pos hv] at h
        exact key u v hu hv (List.cons.inj h).1
      · rw [dif_neg hv] at h
        have h1 := congrArg List.length h
        have h2 := pos (v / 10)
        rw [List.length_append, List.length_singleton, List.length_singleton] at h1
        omega
    · rw [dif_neg hu] at h
      by_cases hv : v < 10
      · rw [dif_pos hv] at h
        have h1 := congrArg List.length h
        have h2 := pos (u / 10)
        rw [List.length_append, List.length_singleton, List.length_singleton] at h1
        omega
      · rw [dif_neg hv] at h
        obtain ⟨h1, h2⟩ := List.append_inj' h rfl
        have h3 := ih (u / 10) (by omega) _ h1
        have h4 := key (u % 10) (v % 10) (by omega) (by omega) (List.cons.inj h2).1
        omega
/-- Numbers, each behind a comma. -/
def commas (L : List Nat) : List UInt8 := L.flatMap fun n => 44 :: Lib.decDigits n
theorem split44 : ∀ {a b c d : List UInt8}, (∀ x ∈ a, x ≠ 44) → (∀ x ∈ c, x ≠ 44) → (b = [] ∨ ∃ t, b = 44 :: t) → (d = [] ∨ ∃ t, d = 44 :: t) → a ++ b = c ++ d → a = c ∧ b = d
  | [], b, [], d, _, _, _, _, h => ⟨rfl, h⟩
  | [], b, y :: c, d, _, hc, hb, _, h => by
    rcases hb with rfl | ⟨t, rfl⟩
    · simp at h
    · simp at h
      exact absurd h.1.symm (hc y (by simp))
  | x :: a, b, [], d, ha, _, _, hd, h => by
    rcases hd with rfl | ⟨t, rfl⟩
    · simp at h
    · simp at h
      exact absurd h.1 (ha x (by simp))
  | x :: a, b, y :: c, d, ha, hc, hb, hd, h => by
    simp only [List.cons_append, List.cons.injEq] at h
    obtain ⟨h1, h2⟩ := split44 (fun z hz => ha z (by simp [hz])) (fun z hz => hc z (by simp [hz])) hb hd h.2
    exact ⟨by rw [h.1, h1], h2⟩
theorem commas_form : ∀ L : List Nat, commas L = [] ∨ ∃ t, commas L = 44 :: t
  | [] => .inl rfl
  | n :: L => .inr ⟨_, rfl⟩
theorem dig_44 (u : Nat) : ∀ x ∈ Lib.decDigits u, x ≠ 44 := by
  intro x hx e
  have := dig_ne u x hx
  rw [e] at this
  exact absurd this.1 (by decide)
theorem commas_inj : ∀ {L M : List Nat}, commas L = commas M → L = M
  | [], [], _ => rfl
  | [], m :: M, h => by simp [commas] at h
  | n :: L, [], h => by simp [commas] at h
  | n :: L, m :: M, h => by
    have h' : Lib.decDigits n ++ commas L = Lib.decDigits m ++ commas M := by
      simpa [commas] using h
    obtain ⟨h1, h2⟩ := split44 (dig_44 n) (dig_44 m) (commas_form L) (commas_form M) h'
    rw [dig_inj _ _ h1, commas_inj h2]
theorem nodup_at {α : Type} {D : List α} (h : D.Nodup) {n m : Nat} {x : α} (hn : D[n]? = some x) (hm : D[m]? = some x) : n = m := by
  obtain ⟨h1, h2⟩ := List.getElem?_eq_some_iff.1 hn
  obtain ⟨h3, h4⟩ := List.getElem?_eq_some_iff.1 hm
  have hp := List.pairwise_iff_getElem.1 h
  rcases Nat.lt_trichotomy n m with hl | hl | hl
  · exact absurd (h2.trans h4.symm) (hp n m h1 h3 hl)
  · exact hl
  · exact absurd (h4.trans h2.symm) (hp m n h3 h1 hl)
theorem sorted_ext : ∀ {L M : List Nat}, L.Pairwise (· < ·) → M.Pairwise (· < ·) → (∀ x, x ∈ L ↔ x ∈ M) → L = M
  | [], [], _, _, _ => rfl
  | [], m :: M, _, _, h => by have := (h m).2 (by simp); cases this
  | n :: L, [], _, _, h => by have := (h n).1 (by simp); cases this
  | n :: L, m :: M, hL, hM, h => by
    have hL' := List.pairwise_cons.1 hL
    have hM' := List.pairwise_cons.1 hM
    have e : n = m := by
      rcases List.mem_cons.1 ((h n).1 (by simp)) with e | h1
      · exact e
      · rcases List.mem_cons.1 ((h m).2 (by simp)) with e | h2
        · exact e.symm
        · have := hL'.1 m h2
          have := hM'.1 n h1
          omega
    subst e
    congr 1
    refine sorted_ext hL'.2 hM'.2 fun x => ?_
    constructor
    · intro hx
      rcases List.mem_cons.1 ((h x).1 (by simp [hx])) with e | h1
      · have := hL'.1 x hx; omega
      · exact h1
    · intro hx
      rcases List.mem_cons.1 ((h x).2 (by simp [hx])) with e | h1
      · have := hM'.1 x hx; omega
      · exact h1
/-- A number put into a list of numbers that goes up, once. -/
def ins : List Nat → Nat → List Nat
  | [], n => [n]
  | x :: L, n => if x = n then x :: L else if n < x then n :: x :: L else x :: ins L n
theorem mem_ins {L : List Nat} {n x : Nat} : x ∈ ins L n ↔ x = n ∨ x ∈ L := by
  induction L with
  | nil => simp [ins]
  | cons y L ih =>
    unfold ins
    split
    · rename_i h; subst h; simp
    · split
      · simp
      · simp only [List.mem_cons, ih]
        constructor
        · rintro (h | h | h) <;> simp [h]
        · rintro (h | h | h) <;> simp [h]
theorem ins_sorted {L : List Nat} {n : Nat} (h : L.Pairwise (· < ·)) : (ins L n).Pairwise (· < ·) := by
  induction L with
  | nil => simp [ins]
  | cons y L ih =>
    have h' := List.pairwise_cons.1 h
    unfold ins
    split
    · exact h
    · split
      · rename_i h1 h2
        refine List.pairwise_cons.2 ⟨fun z hz => ?_, h⟩
        rcases List.mem_cons.1 hz with rfl | hz
        · exact h2
        · have := h'.1 z hz; omega
      · rename_i h1 h2
        refine List.pairwise_cons.2 ⟨fun z hz => ?_, ih h'.2⟩
        rcases mem_ins.1 hz with rfl | hz
        · omega
        · exact h'.1 z hz
/-- How far a list goes where a number is put in. -/
theorem ins_at (L : List Nat) (n : Nat) : ∀ k, k ≤ L.length → (∀ j (h : j < L.length), j < k → L[j] < n) →
    ins L n = L.take k ++ ins (L.drop k) n := by
  intro k
  induction k generalizing L with
  | zero => intro _ _; simp
  | succ k ih =>
    intro hk h
    match L with
    | [] => simp at hk
    | x :: L =>
      have h0 := h 0 (by simp) (by omega)
      simp at h0
      rw [ins, if_neg (by omega), if_neg (by omega), ih L (by simpa using hk) (fun j hj hjk => by have := h (j + 1) (by simpa using hj) (by omega); simpa using this)]
      simp
end Go.Proofs.YtnhlhjehocngcaaGreatDoor.Gs

namespace Go.Proofs.YtnhlhjehocngcaaGreatDoor
open Go.RowKit
def bit (b : Bool) : UInt8 := if b then 49 else 48
/-- The text of a bit. -/
def bitS (b : Bool) : ByteArray := ⟨#[bit b]⟩
/-- The text of n bits. -/
def bitsOf (f : Nat → Bool) (n : Nat) : ByteArray := ⟨((List.range n).map fun i => bit (f i)).toArray⟩
theorem bitS_size (b : Bool) : (bitS b).size = 1 := rfl
theorem bitsOf_size (f : Nat → Bool) (n : Nat) : (bitsOf f n).size = n := by
  show ((List.range n).map fun i => bit (f i)).toArray.size = n
  simp
theorem bitsOf_succ (f : Nat → Bool) (n : Nat) : bitsOf f (n + 1) = bitsOf f n ++ bitS (f n) := by
  unfold bitsOf bitS
  have h := ByteArray.mk_append_mk ((List.range n).map fun i => bit (f i)) [bit (f n)]
  rw [show (#[bit (f n)] : Array UInt8) = [bit (f n)].toArray from rfl, h]
  congr 2
  rw [List.range_succ]
  simp
theorem bitsOf_zero (f : Nat → Bool) : bitsOf f 0 = ByteArray.empty := rfl
/-- The text of the bits of n rows of n. -/
def gridOf (r : Nat → Nat → Bool) (n : Nat) : ByteArray := bitsOf (fun k => r (k / n) (k % n)) (n * n)
theorem l1Bit_any (b : Bool) (w : World) : Calls Tryz.prog 91 #[.bool b] w fun e w' => e = .returned (.string (bitS b)) ∧ w = w' := by
  cases b
  · go_enter Tryz.func91, Tryz.ntmps91
    go_wp2
    go_ret
    exact ⟨rfl, rfl⟩
  · go_enter Tryz.func91, Tryz.ntmps91
    go_wp2
    go_ret
    exact ⟨rfl, rfl⟩
end Go.Proofs.YtnhlhjehocngcaaGreatDoor
namespace Go.Proofs.YtnhlhjehocngcaaGreatDoor
open Go.RowKit
/-- The value of a structure. -/
def strV (n : Int) (S R : ByteArray) : Value := .agg #[.int .i64 n, .string S, .string R]
/-- A structure variable in block b. -/
def SBlk (w : World) (b : Nat) (n : Int) (S R : ByteArray) : Prop := w.heap[b]? = some (.cells #[.int .i64 n, .string S, .string R] 24 (0, 0))
theorem SBlk.cells {w : World} {b : Nat} {n : Int} {S R : ByteArray} (h : SBlk w b n S R) :
    w.cell? ⟨b, 0, none⟩ = some (.int .i64 n) ∧ w.cell? ⟨b, 1, none⟩ = some (.string S) ∧ w.cell? ⟨b, 2, none⟩ = some (.string R) ∧ w.frozen? ⟨b, 0, none⟩ = false ∧ w.frozen? ⟨b, 1, none⟩ = false ∧ w.frozen? ⟨b, 2, none⟩ = false ∧ b < w.heap.size := by
  unfold SBlk at h
  have hb : b < w.heap.size := by
    rcases Nat.lt_or_ge b w.heap.size with h' | h'
    · exact h'
    · simp [Array.getElem?_eq_none h'] at h
  refine ⟨?_, ?_, ?_, ?_, ?_, ?_, hb⟩ <;> simp [World.cell?, World.frozen?, h]
theorem SBlk.new (w : World) (n : Int) (S R : ByteArray) : SBlk (w.alloc (.cells #[.int .i64 n, .string S, .string R] 24)) w.heap.size n S R := heap_alloc_new w _
theorem SBlk.below {w w' : World} {b B : Nat} {n : Int} {S R : ByteArray} (h : SBlk w b n S R) (hb : Below B w w') (hB : b < B) : SBlk w' b n S R := (hb.block b hB).trans h
theorem SBlk.set1 {w : World} {b : Nat} {n : Int} {S R S' : ByteArray} (h : SBlk w b n S R) : SBlk (w.setCell ⟨b, 1, none⟩ (.string S')) b n S' R := by
  unfold SBlk at h ⊢
  simp [World.setCell, Array.getElem?_modify, h]
theorem SBlk.set2 {w : World} {b : Nat} {n : Int} {S R R' : ByteArray} (h : SBlk w b n S R) : SBlk (w.setCell ⟨b, 2, none⟩ (.string R')) b n S R' := by
  unfold SBlk at h ⊢
  simp [World.setCell, Array.getElem?_modify, h]
theorem SBlk.far {w : World} {b : Nat} {n : Int} {S R : ByteArray} (h : SBlk w b n S R) {p : Addr} (hp : b ≠ p.block) (u : Value) : SBlk (w.setCell p u) b n S R := (Below.heap_setCell w p u b hp).trans h
theorem SBlk.drew {w : World} {b : Nat} {n : Int} {S R : ByteArray} (h : SBlk w b n S R) : SBlk w.drew b n S R := h
theorem SBlk.set3 {w : World} {b : Nat} {n n' : Int} {S R S' R' : ByteArray} (h : SBlk w b n S R) : SBlk (((w.setCell ⟨b, 0, none⟩ (.int .i64 n')).setCell ⟨b, 1, none⟩ (.string S')).setCell ⟨b, 2, none⟩ (.string R')) b n' S' R' := by
  unfold SBlk at h ⊢
  simp [World.setCell, Array.getElem?_modify, h]
theorem strInfo : (Tryz.prog.info? 24).map (·.size) = some 3 := by kernel_rfl
/-- A result that is a structure in a variable. -/
theorem results_str {fn : Func} {p : Tmp} (h : fn.results = #[.cell p 24]) {tmps : Array Value} {w : World} {b : Nat} {n : Int} {S R : ByteArray} (hp : tmps.getD p undef = .pointer (some ⟨b, 0, none⟩)) (hb : SBlk w b n S R) :
    (results fn tmps).run Tryz.prog w = .ok (strV n S R) w :=
  results_cell_row h tmps w b 24 #[.int .i64 n, .string S, .string R] (0, 0) _ hp hb Tryz.underlying24 rfl strInfo
theorem grid_at {r : Nat → Nat → Bool} {n x y : Nat} (hy : y < n) : r ((x * n + y) / n) ((x * n + y) % n) = r x y := by
  have h0 : 0 < n := by omega
  have h1 : (x * n + y) / n = x := by
    rw [Nat.mul_comm, Nat.mul_add_div h0, Nat.div_eq_of_lt hy]; rfl
  have h2 : (x * n + y) % n = y := by
    rw [Nat.mul_comm, Nat.mul_add_mod, Nat.mod_eq_of_lt hy]
  rw [h1, h2]
end Go.Proofs.YtnhlhjehocngcaaGreatDoor
namespace Go.Proofs.YtnhlhjehocngcaaGreatDoor
open Go.RowKit
set_option linter.unusedVariables false
/-- Whether a place of a text holds a 1. -/
def oneAt (s : ByteArray) (k : Nat) : Bool := s.data.toList.getD k 0 == 49
theorem oneAt_at (s : ByteArray) (k : Nat) (h : k < s.size) : ((s[k].toNat : Int) == 49) = oneAt s k := by
  have e : s.data.toList.getD k 0 = s[k] := by
    have hx : k < s.data.toList.length := by simpa using h
    rw [List.getD_eq_getElem?_getD, List.getElem?_eq_getElem hx]
    rfl
  unfold oneAt
  rw [e]
  generalize s[k] = c
  rw [Bool.eq_iff_iff, beq_iff_eq, beq_iff_eq]
  constructor
  · intro h
    apply UInt8.toNat_inj.1
    have : (49 : UInt8).toNat = 49 := rfl
    omega
  · intro h
    rw [h]; rfl
/-- The world after a structure was boxed. -/
def boxS (w : World) (n : Int) (S R : ByteArray) : World := w.alloc (.cells #[.int .i64 n, .string S, .string R] 24)
theorem boxS_below (w : World) (n : Int) (S R : ByteArray) : Below w.heap.size w (boxS w n S R) := (Below.refl _ _).alloc (Nat.le_refl _) _
theorem boxS_SBlk (w : World) (n : Int) (S R : ByteArray) : SBlk (boxS w n S R) w.heap.size n S R := SBlk.new w n S R
theorem boxS_size (w : World) (n : Int) (S R : ByteArray) : (boxS w n S R).heap.size = w.heap.size + 1 := by simp [boxS]
/-- Whether an element is related. -/
def relAt (n : Nat) (R : ByteArray) (x y : Nat) : Bool := oneAt R (x * n + y)
theorem inSet_any (n : Int) (S R : ByteArray) (x : Nat) (w : World) (hx : x < S.size) (hS : S.size ≤ 9223372036854775807) :
    Calls Tryz.prog 117 #[strV n S R, .int .i64 (x : Int)] w fun e w' => e = .returned (.bool (oneAt S x)) ∧ w' = boxS w n S R := by
  unfold strV
  have e1 := oneAt_at S x hx
  generalize oneAt S x = b at *
  go_enter Tryz.func117, Tryz.ntmps117
  go_wp2_with fail
  go_ret
  exact ⟨rfl, rfl⟩
theorem l1Set_any (n : Int) (S R : ByteArray) (x : Nat) (w : World) (hx : x < S.size) (hS : S.size ≤ 9223372036854775807) :
    Calls Tryz.prog 109 #[strV n S R, .int .i64 (x : Int)] w fun e w' => e = .returned (.bool (oneAt S x)) ∧ w' = boxS w n S R := by
  unfold strV
  have e1 := oneAt_at S x hx
  generalize oneAt S x = b at *
  go_enter Tryz.func109, Tryz.ntmps109
  go_wp2_with fail
  go_ret
  exact ⟨rfl, rfl⟩
theorem rel_place {n x y : Nat} {R : ByteArray} (hx : x < n) (hy : y < n) (hn : n ≤ 8) (hR : R.size = n * n) :
    ∃ p : Nat, p = x * n ∧ p + y < R.size ∧ p ≤ 56 ∧ IntKind.i64.wrap ((x : Int) * (n : Int)) = (p : Int) := by
  have h1 : x * n ≤ 7 * 8 := Nat.mul_le_mul (by omega) hn
  refine ⟨x * n, rfl, ?_, by omega, ?_⟩
  · rw [hR]
    have : x * n + y < x * n + n := by omega
    have h2 : x * n + n ≤ n * n := by
      rw [← Nat.succ_mul]
      exact Nat.mul_le_mul_right _ hx
    omega
  · rw [← Int.natCast_mul]
    exact IntWalk.i64_in _ (by omega)
theorem inRel_any (n : Nat) (S R : ByteArray) (x y : Nat) (w : World) (hx : x < n) (hy : y < n) (hn : n ≤ 8) (hR : R.size = n * n) :
    Calls Tryz.prog 119 #[strV n S R, .int .i64 (x : Int), .int .i64 (y : Int)] w fun e w' => e = .returned (.bool (relAt n R x y)) ∧ w' = boxS w n S R := by
  unfold strV relAt
  obtain ⟨p, hp, hpy, hp56, hw⟩ := rel_place hx hy hn hR
  rw [← hp]
  clear hp
  have hw2 : IntKind.i64.wrap ((p : Int) + (y : Int)) = ((p + y : Nat) : Int) := IntWalk.i64_in _ (by omega)
  generalize p + y = q at *
  have e1 := oneAt_at R q hpy
  generalize oneAt R q = b at *
  have hR64 : R.size ≤ 64 := by rw [hR]; exact Nat.mul_le_mul hn hn
  clear hR
  go_enter Tryz.func119, Tryz.ntmps119
  go_wp2_with fail
  go_ret
  exact ⟨rfl, rfl⟩
theorem l1Rel_any (n : Nat) (S R : ByteArray) (x y : Nat) (w : World) (hx : x < n) (hy : y < n) (hn : n ≤ 8) (hR : R.size = n * n) :
    Calls Tryz.prog 110 #[strV n S R, .int .i64 (x : Int), .int .i64 (y : Int)] w fun e w' => e = .returned (.bool (relAt n R x y)) ∧ w' = boxS w n S R := by
  unfold strV relAt
  obtain ⟨p, hp, hpy, hp56, hw⟩ := rel_place hx hy hn hR
  rw [← hp]
  clear hp
  have hw2 : IntKind.i64.wrap ((p : Int) + (y : Int)) = ((p + y : Nat) : Int) := IntWalk.i64_in _ (by omega)
  generalize p + y = q at *
  have e1 := oneAt_at R q hpy
  generalize oneAt R q = b at *
  have hR64 : R.size ≤ 64 := by rw [hR]; exact Nat.mul_le_mul hn hn
  clear hR
  go_enter Tryz.func110, Tryz.ntmps110
  go_wp2_with fail
  go_ret
  exact ⟨rfl, rfl⟩
end Go.Proofs.YtnhlhjehocngcaaGreatDoor
