/- The reference's l12Word: the word with a number. Condition: at most eight letters. -/
import Derived.Test.YtadgiknnejjplaaDoorWords
import Derived.Test.YtadgiknnejjplaaDoorNum
import Derived.IntWalk
import Derived.Test.YtadgiknnejjplaaDoorHolds
import Derived.Test.YtadgiknnejjplaaDoorDrawF2
namespace Go.Proofs.YtadgiknnejjplaaDoor
open Go.RowKit
set_option linter.unusedVariables false

theorem b_assoc' (a b c : ByteArray) : a ++ b ++ c = a ++ (b ++ c) := by
  apply ByteArray.ext
  simp [ByteArray.data_append, Array.append_assoc]
theorem b_nil' (a : ByteArray) : a ++ ByteArray.empty = a := by
  apply ByteArray.ext
  simp
/-- The letter of a bit. -/
def letS (b : Nat) : ByteArray := if b = 0 then ⟨#[120]⟩ else ⟨#[121]⟩
/-- The word with a number. -/
def numW : Nat → Nat → ByteArray
  | 0, _ => ByteArray.empty
  | l + 1, n => numW l (n / 2) ++ letS (n % 2)
theorem numW_all : ∀ l, (List.range (2 ^ l)).map (numW l) = allW l
  | 0 => rfl
  | l + 1 => by
    have ih := numW_all l
    have h : ∀ m, (List.range (2 * m)).map (numW (l + 1)) = ((List.range m).map (numW l)).flatMap fun u => [u ++ ⟨#[120]⟩, u ++ ⟨#[121]⟩] := by
      intro m
      induction m with
      | zero => rfl
      | succ m ih =>
        rw [show 2 * (m + 1) = 2 * m + 1 + 1 by omega, List.range_succ, List.range_succ, List.range_succ]
        simp only [List.map_append, List.flatMap_append, ih, List.map_cons, List.map_nil, List.append_assoc]
        congr 1
        simp only [numW, List.flatMap_cons, List.flatMap_nil, List.append_nil, List.cons_append, List.nil_append]
        rw [show 2 * m / 2 = m by omega, show 2 * m % 2 = 0 by omega, show (2 * m + 1) / 2 = m by omega, show (2 * m + 1) % 2 = 1 by omega]
        rfl
    rw [Nat.pow_succ, Nat.mul_comm, h, ih]
    rfl
/-- The word's last letters, from the bit i - 1 on. -/
def tailW (n : Nat) : Nat → ByteArray
  | 0 => ByteArray.empty
  | i + 1 => letS (n / 2 ^ i % 2) ++ tailW n i
theorem tailW_num (n : Nat) : ∀ l, tailW n l = numW l (n % 2 ^ l) := by
  intro l
  induction l generalizing n with
  | zero => rfl
  | succ l ih =>
    have key : ∀ n l, tailW n (l + 1) = tailW (n / 2) l ++ letS (n % 2) := by
      intro n l
      induction l with
      | zero => simp [tailW]
      | succ l ih2 =>
        rw [tailW, ih2]
        show _ = (letS (n / 2 / 2 ^ l % 2) ++ tailW (n / 2) l) ++ letS (n % 2)
        rw [b_assoc', Nat.div_div_eq_div_mul, Nat.pow_succ, Nat.mul_comm]
    rw [key, ih]
    have e1 : n % 2 ^ (l + 1) / 2 = n / 2 % 2 ^ l := by
      rw [Nat.pow_succ, Nat.mul_comm, Nat.mod_mul_right_div_self]
    have e2 : n % 2 ^ (l + 1) % 2 = n % 2 := by
      rw [Nat.pow_succ, Nat.mul_comm, Nat.mod_mul_right_mod]
    simp only [numW, e1, e2]

theorem ofInt_i64' (a : Nat) (ha : a < 9223372036854775808) : (BitVec.ofInt 64 (a : Int)).toNat = a := by
  rw [BitVec.ofInt_natCast, BitVec.toNat_ofNat]; exact Nat.mod_eq_of_lt (by omega)
theorem i64_and1 (a : Nat) (ha : a < 9223372036854775808) : bits .and .i64 (a : Int) 1 = ((a % 2 : Nat) : Int) := by
  show IntKind.i64.wrap ((BitVec.ofInt 64 (a : Int) &&& BitVec.ofInt 64 ((1 : Nat) : Int)).toNat : Int) = _
  rw [BitVec.toNat_and, ofInt_i64' a ha, ofInt_i64' 1 (by omega), Nat.and_one_is_mod]
  exact IntWalk.i64_in _ (by omega)

set_option maxRecDepth 100000 in
theorem l12Word_any (n l : Nat) (w : World) (hn : n < 2 ^ l) (hl : l ≤ 8) : Calls Tryd.prog 96 #[.int .i64 (n : Int), .int .i64 (l : Int)] w fun e w' => e = .returned (.string (numW l n)) ∧ w = w' := by
  have HT : Hid (tailW n l = numW l n) := by
    show _ = _
    rw [tailW_num, Nat.mod_eq_of_lt hn]
  have hn256 : n < 256 := Nat.lt_of_lt_of_le hn (pow_8 hl)
  obtain ⟨RES, hres⟩ : ∃ r, numW l n = r := ⟨_, rfl⟩
  rw [hres] at HT ⊢
  clear hres hn
  go_enter Tryd.func96, Tryd.ntmps96
  go_wp2_with fail
  go_loop [6, 5] (fun i o => ∃ (z : Int) (j : Nat) (out : ByteArray), i = .int .i64 z ∧ o = .string out ∧ -1 ≤ z ∧ z < 8 ∧ out.size ≤ 8 - j ∧ j ≤ 8 ∧ Hid (z = (j : Int) - 1) ∧ Hid (out ++ tailW n j = RES)) (fun i _ => (intOf i + 1).toNat)
  case atStart =>
    refine ⟨(l : Int) - 1, l, ByteArray.empty, rfl, rfl, by omega, by omega, by simp, hl, rfl, ?_⟩
    show ByteArray.empty ++ tailW n l = RES
    rw [HT.out]; apply ByteArray.ext; simp
  case round =>
    obtain ⟨z, j, out, rfl, rfl, hz1, hz2, ho, hj, HZ, HO⟩ := hrel
    by_cases hz : 0 ≤ z
    · obtain ⟨m, rfl⟩ := Int.eq_ofNat_of_zero_le hz
      have hjm : j = m + 1 := by have := HZ.out; omega
      have HO2 : Hid (out ++ letS (n / 2 ^ m % 2) ++ tailW n m = RES) := by
        have h := HO.out
        rw [hjm] at h
        show _ = _
        rw [b_assoc']; exact h
      have ho2 : out.size ≤ 8 - (m + 1) := by omega
      have hb := i64_and1 (n / 2 ^ m) (Nat.lt_of_le_of_lt (Nat.div_le_self _ _) (by omega))
      have hcast : ((n / 2 ^ m : Nat) : Int) = (n : Int) / 2 ^ m := by simp
      rw [hcast] at hb
      have hm2 : n / 2 ^ m % 2 = 0 ∨ n / 2 ^ m % 2 = 1 := by omega
      clear hcast HZ HO
      rcases hm2 with h0 | h0
      · rw [h0] at hb HO2
        clear h0 hjm
        have hb : bits BinOp.and IntKind.i64 ((n : Int) / 2 ^ m) 1 = 0 := hb
        go_wp2_with fail
        go_round
        case rel =>
          refine ⟨(m : Int) - 1, m, _, by go_num, rfl, by omega, by omega, ?_, by omega, rfl, ?_⟩
          · rw [ByteArray.size_append]
            have : (ByteArray.extract ⟨#[120, 121]⟩ 0 1).size = 1 := rfl
            omega
          · exact HO2.out
        case measure => simp [intOf]
      · rw [h0] at hb HO2
        clear h0 hjm
        have hb : bits BinOp.and IntKind.i64 ((n : Int) / 2 ^ m) 1 = 1 := hb
        go_wp2_with fail
        go_round
        case rel =>
          refine ⟨(m : Int) - 1, m, _, by go_num, rfl, by omega, by omega, ?_, by omega, rfl, ?_⟩
          · rw [ByteArray.size_append]
            have : (ByteArray.extract ⟨#[120, 121]⟩ 1 2).size = 1 := rfl
            omega
          · exact HO2.out
        case measure => simp [intOf]
    · have hj0 : j = 0 := by have := HZ.out; omega
      have HE : Hid (out = RES) := by
        have h := HO.out
        rw [hj0] at h
        show _ = _
        rw [← h]
        exact (b_nil' out).symm
      clear HZ HO hj0
      go_wp2_with fail
      go_ret
      exact ⟨congrArg (fun s => Ending.returned (.string s)) HE.out, rfl⟩
end Go.Proofs.YtadgiknnejjplaaDoor
/- The words of which a sentence is true: WordsOf of the program and of the reference. Condition: the text's length fits an integer. -/
namespace Go.Proofs.YtadgiknnejjplaaDoor
open Go.RowKit
set_option linter.unusedVariables false
set_option maxRecDepth 100000

/-- The plain form of a word's structure. -/
def wSt' (s : ByteArray) : Gs.St := stOf s.size (bitsOf (letB s) s.size) (gridOf ltB s.size)
def env0 : Fm.Env := fun _ => 0
/-- The words of a length of which a sentence is true. -/
def truW (φ : Fm.T) (z : Nat) : List ByteArray := (allW z).filter fun u => Fm.holds (wSt' u) φ env0
def truB (φ : Fm.T) (z : Nat) (u : ByteArray) : Bool := decide (u.size = z) && Fm.holds (wSt' u) φ env0
theorem truW_up (φ : Fm.T) (z : Nat) : (upTo z).filter (truB φ z) = if z = 0 then [] else truW φ z := by
  cases z with
  | zero => rfl
  | succ z =>
    rw [if_neg (by omega)]
    unfold upTo truW
    rw [List.filter_append]
    have h1 : (upTo z).filter (truB φ (z + 1)) = [] := List.filter_eq_nil_iff.2 fun u hu => by
      have := upTo_size z u hu
      unfold truB
      rw [decide_eq_false (by omega)]; simp
    rw [h1, List.nil_append]
    apply List.filter_congr
    intro u hu
    have := allW_size (z + 1) u hu
    unfold truB
    rw [decide_eq_true this, Bool.true_and]
theorem truTo_succ (p : ByteArray → Bool) (L : List ByteArray) (i : Nat) (hi : i < L.length) : (L.take (i + 1)).filter p = if p (L.getD i ByteArray.empty) then (L.take i).filter p ++ [L.getD i ByteArray.empty] else (L.take i).filter p := by
  have e : L.getD i ByteArray.empty = L[i] := by simp [hi]
  rw [e, List.take_succ_eq_append_getElem hi, List.filter_append]
  cases h : p L[i] <;> simp [h]
/-- The sentence's words. -/
def wordsRes (f : ByteArray) (z : Int) : Option (List ByteArray) :=
  match readB f with
  | none => none
  | some φ => if Fm.free φ = 0 ∧ 1 ≤ z ∧ z ≤ 8 then some (truW φ z.toNat) else none
theorem wordsRes_none {f : ByteArray} {z : Int} (h : readB f = none) : wordsRes f z = none := by unfold wordsRes; rw [h]
theorem wordsRes_some {f : ByteArray} {z : Int} {φ : Fm.T} (h : readB f = some φ) : wordsRes f z = if Fm.free φ = 0 ∧ 1 ≤ z ∧ z ≤ 8 then some (truW φ z.toNat) else none := by unfold wordsRes; rw [h]
/-- What WordsOf leaves. -/
def WdsP (w : World) (r : Option (List ByteArray)) (e : Ending) (w' : World) : Prop :=
  Below w.heap.size w w' ∧ ((r = none ∧ ∃ v, e = .returned (.tuple #[v, .bool false]) ∧ (v = .slice none 0 0 ∨ OwnS w.heap.size w' v [])) ∨ ∃ v L, r = some L ∧ e = .returned (.tuple #[v, .bool true]) ∧ OwnS w.heap.size w' v L)

/-- What the program's loop keeps. -/
structure Wp (w wr : World) (F : Nat → Prop) (φ : Fm.T) (p : Nat) (W : List ByteArray) (vw vo : Value) (L : List ByteArray) : Prop where
  out : OwnS w.heap.size wr vo L
  words : OwnS w.heap.size wr vw W
  ne : vo.ownBlock ≠ vw.ownBlock
  old : Below w.heap.size w wr
  tree : Tree F wr φ p
  apart : ∀ k, vo.ownBlock = some k → ¬ F k
  low : ∀ b, F b → b < wr.heap.size
section
variable {w wr w' : World} {F : Nat → Prop} {φ : Fm.T} {p : Nat} {W : List ByteArray} {vw vo vo' : Value} {L L' : List ByteArray}
theorem Wp.below (h : Wp w wr F φ p W vw vo L) (hb : Below wr.heap.size wr w') : Wp w w' F φ p W vw vo L :=
  ⟨h.out.below hb, h.words.below hb, h.ne, h.old.trans (hb.mono h.old.size), h.tree.below hb, h.apart, fun b hf => Nat.lt_of_lt_of_le (h.low b hf) hb.size⟩
theorem Wp.push {o : Obj} (h : Wp w wr F φ p W vw vo L) (hown : OwnS w.heap.size w' vo' L') (hg : (wr.alloc o).grownBy w' vo.ownBlock)
    (hat : vo'.ownBlock = vo.ownBlock ∨ ∃ k, vo'.ownBlock = some k ∧ (wr.alloc o).heap.size ≤ k) : Wp w w' F φ p W vw vo' L' := by
  obtain ⟨k2, e2, _, l2⟩ := h.words.block
  obtain ⟨k1, e1, l1, _⟩ := h.out.block
  have al : Below wr.heap.size wr (wr.alloc o) := (Below.refl _ _).alloc (Nat.le_refl _) _
  have hs : (wr.alloc o).heap.size = wr.heap.size + 1 := by simp
  have hw := h.old.size
  have hoff : Off (fun b => vo.ownBlock = some b) (wr.alloc o) w' := Off.grown hg (fun b e => e)
  refine ⟨hown, (h.words.below al).grown hg (Ne.symm h.ne), ?_, (h.old.alloc hw _).grown hg (by omega) (fun j hj => ?_), (h.tree.below al).off hoff (fun b hb e => h.apart b e hb), fun k hk hf => ?_, fun b hf => Nat.lt_of_lt_of_le (h.low b hf) (Nat.le_trans al.size hg.size)⟩
  · rcases hat with h1 | ⟨j, h1, h2⟩
    · rw [h1]; exact h.ne
    · rw [h1, e2]
      intro e
      have := Option.some.inj e
      omega
  · rw [e1] at hj
    obtain rfl := Option.some.inj hj
    exact l1
  · rcases hat with h1 | ⟨j, h1, h2⟩
    · exact h.apart k (h1 ▸ hk) hf
    · rw [h1] at hk
      obtain rfl := Option.some.inj hk
      have := h.low _ hf
      omega
end
set_option maxHeartbeats 1000000 in
theorem implWordsOf_any (f : ByteArray) (hf : f.size ≤ 9223372036854775807) (z : Int) (w : World) :
    Calls Tryd.prog 31 #[.string f, .int .i64 z] w (WdsP w (wordsRes f z)) := by
  obtain ⟨RES, hres⟩ : ∃ r, wordsRes f z = r := ⟨_, rfl⟩
  rw [hres]
  go_enter Tryd.func31, Tryd.ntmps31
  go_wp2_with fail
  refine (parseFormula_any f _ hf).mono ?_
  rintro en w1 ⟨hb1, hor⟩
  have HB1 := Lib.hid hb1
  clear hb1
  rcases hor with ⟨hr, rfl⟩ | ⟨φ, p, hr, rfl, ht⟩
  · have HP : Hid (WdsP w RES (.returned (.tuple #[.slice none 0 0, .bool false])) w1) := ⟨HB1.out, .inl ⟨by rw [← hres]; exact wordsRes_none hr, _, rfl, .inl rfl⟩⟩
    clear hr hres
    go_wp2_with fail
    go_ret2
    exact HP.out
  · have HI := Lib.hid (hres.symm.trans (wordsRes_some hr))
    have HT := Lib.hid ht.tight
    obtain ⟨v, u, qs, nd, _⟩ := ht.node
    have c3 := nd.cells.2.2.2.1
    have hfl := Fm.free_lt φ
    clear hr hres ht nd
    obtain ⟨fr, hfr⟩ : ∃ fr, Fm.free φ = fr := ⟨_, rfl⟩
    rw [hfr] at c3 hfl HI
    clear hfr
    have HN : Hid (¬ (fr = 0 ∧ 1 ≤ z ∧ z ≤ 8) → WdsP w RES (.returned (.tuple #[.slice none 0 0, .bool false])) w1) := fun h => ⟨HB1.out, .inl ⟨by rw [HI.out]; exact if_neg h, _, rfl, .inl rfl⟩⟩
    unfold ptrV
    by_cases h0 : fr = 0
    · by_cases h1 : z < 1
      · have HP := Lib.hid (HN.out (by omega))
        go_wp2_with fail
        go_ret2
        exact HP.out
      · by_cases h8 : 8 < z
        · have HP := Lib.hid (HN.out (by omega))
          go_wp2_with fail
          go_ret2
          exact HP.out
        · obtain ⟨m, rfl⟩ := Int.eq_ofNat_of_zero_le (show 0 ≤ z by omega)
          have HI2 : Hid (RES = some (truW φ m)) := HI.out.trans (if_pos ⟨h0, by omega, by omega⟩)
          have hm8 : m ≤ 8 := by omega
          have hm1 : 1 ≤ m := by omega
          have HU := Lib.hid (fun w => wordsUpTo_any m w hm8)
          have HUP := Lib.hid (truW_up φ m)
          have hul : (upTo m).length ≤ 510 := by
            have h1 := upTo_length m
            have h2 : 2 ^ (m + 1) ≤ 2 ^ 9 := Nat.pow_le_pow_right (by decide) (by omega)
            omega
          have HUS := Lib.hid (upTo_size m)
          obtain ⟨W, hW⟩ : ∃ W, upTo m = W := ⟨_, rfl⟩
          rw [hW] at HU HUP hul HUS
          clear hW HN HI
          go_wp2_with fail
          refine (HU.out _).mono ?_; rintro e w2 ⟨vw, rfl, hw, hb⟩
          have HW0 : Hid (Wp w w2 (fun b => w.heap.size ≤ b ∧ b < w1.heap.size) φ p W vw (.slice (some ⟨w1.heap.size, 0, none⟩) 0 0) ((W.take 0).filter (truB φ m))) := by
            obtain ⟨k2, e2, l2, _⟩ := hw.block
            have al : Below w1.heap.size w1 (w1.alloc (.cells #[] 9)) := (Below.refl _ _).alloc (Nat.le_refl _) _
            have hs : (w1.alloc (.cells #[] 9)).heap.size = w1.heap.size + 1 := by simp
            have hz1 := HB1.out.size
            have hzb := hb.size
            refine ⟨(OwnS.lit w.heap.size w1 _ rfl hz1).below hb, ⟨⟨hw.own.1, ?_⟩, hw.ne, by omega⟩, ?_, HB1.out.trans ((al.trans (hb.mono (by omega))).mono hz1), (HT.out.below al).below hb, fun k hk hf => ?_, fun b hb' => by omega⟩
            · rcases hw.own.2 with h1 | ⟨g, cap, cur, h1, h2, h3⟩
              · exact .inl h1
              · exact .inr ⟨g, cap, cur, h1, by omega, h3⟩
            · rw [e2]
              intro e
              have e : w1.heap.size = k2 := Option.some.inj e
              omega
            · have e : w1.heap.size = k := Option.some.inj hk
              omega
          obtain ⟨g, cap, rfl, _, hg2, hc1, hc2, hcell⟩ := hw.cells
          unfold maxLen at hc2
          clear hw hb hcell
          go_wp2_with fail
          go_loopw [33, 7] (fun q vo wr => ∃ i : Nat, i ≤ W.length ∧ q = .int .i64 i ∧ Hid (Wp w wr (fun b => w.heap.size ≤ b ∧ b < w1.heap.size) φ p W (.slice (some ⟨g, 0, none⟩) W.length cap) vo ((W.take i).filter (truB φ m)))) (fun q _ _ => W.length - (intOf q).toNat)
          case atStart => exact ⟨0, by omega, rfl, HW0.out⟩
          case round =>
            obtain ⟨i, hi, rfl, HW⟩ := hrel
            by_cases hlt : i < W.length
            · obtain ⟨g2, cap2, hv2, _, _, _, _, hcell2⟩ := HW.out.words.cells
              have d1 : wr.cell? ⟨g, i, none⟩ = some (.string (W.getD i ByteArray.empty)) := by
                injection hv2 with h1 h2 h3
                injection h1 with h1
                injection h1 with h1
                subst h1
                exact hcell2 i hlt
              have hz := HUS.out (W.getD i ByteArray.empty) (by simp [hlt])
              have HTS := Lib.hid (truTo_succ (truB φ m) W i hlt)
              have HLL : Hid (((W.take i).filter (truB φ m)).length + 1 ≤ 2000000) := by
                have h1 := List.length_filter_le (truB φ m) (W.take i)
                rw [List.length_take] at h1
                show _ ≤ _
                omega
              clear hv2 hcell2
              obtain ⟨x, hx⟩ : ∃ x, W.getD i ByteArray.empty = x := ⟨_, rfl⟩
              rw [hx] at d1 hz HTS
              clear hx
              by_cases hsz : x.size = m
              · have hszI : ((x.size : Int) == (m : Int)) = true := by simp [hsz]
                have HWS := Lib.hid (fun w => implWordStr_any x w (by omega))
                have hval : validB x.size (bitsOf (letB x) x.size) (gridOf ltB x.size) = true := valid_bits (by omega) (by omega) _ _
                have HNH := Lib.hid (fun F w hF => newHolder_any x.size _ _ hval F w hF)
                have HHN := Lib.hid (fun F G w hb kb p hB hT => holds_nil φ F G w hb kb x.size (bitsOf (letB x) x.size) (gridOf ltB x.size) p hB hT)
                have HTB : Hid (truB φ m x = Fm.holds (stOf x.size (bitsOf (letB x) x.size) (gridOf ltB x.size)) φ (fun _ => 0)) := by
                  show _ = _
                  unfold truB
                  rw [decide_eq_true hsz, Bool.true_and]; rfl
                unfold wordV at HWS
                generalize bitsOf (letB x) x.size = S at *
                generalize gridOf ltB x.size = R at *
                rw [hsz] at HTB HHN
                generalize Fm.holds (stOf m S R) φ (fun _ => 0) = b at *
                clear hval
                rw [hsz] at HWS HNH
                unfold strV at HWS HNH
                go_wp2_with fail
                refine (HWS.out _).mono ?_; rintro e w3 ⟨rfl, hb3⟩
                have HW3 := Lib.hid (HW.out.below hb3)
                clear hb3
                go_wp2_with fail
                refine (HNH.out (fun b => w.heap.size ≤ b ∧ b < w1.heap.size) w3 HW3.out.low).mono ?_
                rintro _ w5 ⟨hb, kb, rfl, hkb, hbase, hb5⟩
                have HBS := Lib.hid hbase
                have HW5 := Lib.hid (HW3.out.below hb5)
                have HB35 := Lib.hid hb5
                have HKB := Lib.hid hkb
                have HCC := HHN.out _ _ _ _ _ _ HBS.out (HW5.out.tree.mono (F' := fun b => (w.heap.size ≤ b ∧ b < w1.heap.size) ∨ b = hb) (fun b h => .inl h))
                unfold ptrV at HCC
                have HCD := Lib.hid HCC
                clear HCC hbase hb5 hkb
                unfold ptrV
                go_wp2_with fail
                refine HCD.out.mono ?_; rintro _ w6 ⟨rfl, hev⟩
                have HW6 : Hid (Wp w w6 (fun b => w.heap.size ≤ b ∧ b < w1.heap.size) φ p W (.slice (some ⟨g, 0, none⟩) W.length cap) u7 ((W.take i).filter (truB φ m))) := HW3.out.below (HB35.out.trans (hev.off.below HB35.out.size (fun b hb => by rw [hb]; exact HKB.out)))
                clear hev
                cases b
                · go_wp2_with fail
                  go_roundw
                  case rel => exact ⟨i + 1, by omega, by go_num, by rw [HTS.out, HTB.out, if_neg (by simp)]; exact HW6.out⟩
                  case measure => simp [intOf]; omega
                · go_wp2_with (first | (at_builtin; refine wpList_ownSAll (M := [x]) (HW6.out.out.below ((Below.refl _ _).alloc (Nat.le_refl _) _)) (TextsAt.one w6 x) HLL.out rfl (.tmp 48) (.tmp 50) rfl rfl rfl ?_; intro v' w' ho hg hat; have HW7 := Lib.hid (HW6.out.push ho hg hat); clear ho hg hat) | fail)
                  go_roundw
                  case rel => exact ⟨i + 1, by omega, by go_num, by rw [HTS.out, HTB.out, if_pos rfl]; exact HW7.out⟩
                  case measure => simp [intOf]; omega
              · have hszI : ((x.size : Int) == (m : Int)) = false := by simp; omega
                have HTB : Hid (truB φ m x = false) := by
                  show _ = _
                  unfold truB
                  rw [decide_eq_false hsz]; rfl
                go_wp2_with fail
                go_roundw
                case rel => exact ⟨i + 1, by omega, by go_num, by rw [HTS.out, HTB.out, if_neg (by simp)]; exact HW.out⟩
                case measure => simp [intOf]; omega
            · have HP : Hid (WdsP w RES (.returned (.tuple #[u7, .bool true])) wr) := by
                refine ⟨HW.out.old, .inr ⟨_, _, HI2.out, rfl, ?_⟩⟩
                have h := HW.out.out
                rw [List.take_of_length_le (by omega), HUP.out, if_neg (by omega)] at h
                exact h
              go_wp2_with fail
              go_ret2
              exact HP.out
    · have HP := Lib.hid (HN.out (fun h => h0 h.1))
      go_wp2_with fail
      go_ret2
      exact HP.out
theorem l11View_0 (f : ByteArray) (hf : f.size ≤ 9223372036854775807) (w : World) : Calls Tryd.prog 62 #[.string f, .int .i64 0] w fun en w' => en = .returned (.bool (okV f 1)) ∧ w' = w := by
  have HFV := Lib.hid (fun w => FormulaValid_any f w hf)
  cases hr : readB f with
  | none =>
    have HO := Lib.hid (okV_none (d := 1) hr)
    rw [hr] at HFV
    clear hr
    go_enter Tryd.func62, Tryd.ntmps62
    go_wp2_with fail
    refine (HFV.out _).mono ?_; rintro _ w2 ⟨rfl, hw2⟩; rw [hw2]; clear hw2 w2
    go_wp2_with fail
    go_ret
    exact ⟨ret_bool HO.out.symm, rfl⟩
  | some φ =>
    have HO := Lib.hid (okV_some (d := 1) hr)
    rw [hr] at HFV
    have HAT := readB_at hr
    have HLF : Hid (∀ w, Calls Tryd.prog 124 #[.string f, .int .i64 0] w fun e w' => e = .returned (.tuple #[.int .i64 ((Fm.free φ : Nat) : Int), .int .i64 ((0 + Fm.len φ : Nat) : Int)]) ∧ w' = w) := fun w => l2Free_any f (by have := HAT.2; omega) φ 0 0 w rfl HAT.1
    have hfl := Fm.free_lt φ
    clear hr HAT
    generalize Fm.free φ = fr at *
    go_enter Tryd.func62, Tryd.ntmps62
    go_wp2_with fail
    refine (HFV.out _).mono ?_; rintro _ w2 ⟨rfl, hw2⟩; rw [hw2]; clear hw2 w2
    go_wp2_with fail
    refine (HLF.out _).mono ?_; rintro _ w2 ⟨rfl, hw2⟩; rw [hw2]; clear hw2 w2
    go_wp2_with fail
    go_ret
    refine ⟨ret_bool ?_, rfl⟩
    rw [HO.out, Nat.div_one, Bool.eq_iff_iff, beq_iff_eq, decide_eq_true_eq]; omega
theorem wordsRes_is (f : ByteArray) (z : Int) : (wordsRes f z = none ∧ (okV f 1 = false ∨ inB z 1 8 = false)) ∨ ∃ φ, readB f = some φ ∧ okV f 1 = true ∧ inB z 1 8 = true ∧ wordsRes f z = some (truW φ z.toNat) := by
  cases hr : readB f with
  | none => exact .inl ⟨wordsRes_none hr, .inl (okV_none hr)⟩
  | some φ =>
    by_cases h : Fm.free φ = 0 ∧ 1 ≤ z ∧ z ≤ 8
    · exact .inr ⟨φ, rfl, by rw [okV_some hr, decide_eq_true_iff, Nat.div_one]; exact h.1, inB_iff.2 h.2, by rw [wordsRes_some hr, if_pos h]⟩
    · refine .inl ⟨by rw [wordsRes_some hr, if_neg h], ?_⟩
      by_cases h1 : Fm.free φ = 0
      · refine .inr ?_
        cases hb : inB z 1 8
        · rfl
        · exact absurd ⟨h1, inB_iff.1 hb⟩ h
      · exact .inl (by rw [okV_some hr, decide_eq_false_iff_not, Nat.div_one]; exact h1)
/-- What the reference's loop keeps. -/
structure Ws (w wr : World) (v : Value) (L : List ByteArray) : Prop where
  out : OwnS w.heap.size wr v L
  old : Below w.heap.size w wr
set_option maxHeartbeats 1000000 in
theorem specWordsOf_any (f : ByteArray) (hf : f.size ≤ 9223372036854775807) (z : Int) (w : World) :
    Calls Tryd.prog 32 #[.string f, .int .i64 z] w (WdsP w (wordsRes f z)) := by
  have HV := Lib.hid (fun w => l11View_0 f hf w)
  have HO0 : Hid (Ws w (w.alloc (.cells #[] 9)) (.slice (some ⟨w.heap.size, 0, none⟩) 0 0) []) := ⟨OwnS.lit0 _ w (Nat.le_refl _), (Below.refl _ _).alloc (Nat.le_refl _) _⟩
  rcases wordsRes_is f z with ⟨h1, h2⟩ | ⟨φ, hr, ho, hz, h1⟩
  · rw [h1]
    have HIN := Lib.hid (fun w => l1In_any z 1 8 w)
    have HP : Hid (WdsP w none (.returned (.tuple #[.slice (some ⟨w.heap.size, 0, none⟩) 0 0, .bool false])) (w.alloc (.cells #[] 9))) := ⟨HO0.out.old, .inl ⟨rfl, _, rfl, .inr HO0.out.out⟩⟩
    generalize okV f 1 = b1 at *
    generalize inB z 1 8 = b2 at *
    clear h1
    cases b1
    · clear h2
      go_enter Tryd.func32, Tryd.ntmps32
      go_wp2_with fail
      refine (HV.out _).mono ?_; rintro _ wv ⟨rfl, hwv⟩; rw [hwv]; clear hwv wv
      go_wp2_with fail
      go_ret2
      exact HP.out
    · have hb2 : b2 = false := by
        rcases h2 with h | h
        · cases h
        · exact h
      subst hb2
      clear h2
      go_enter Tryd.func32, Tryd.ntmps32
      go_wp2_with fail
      refine (HV.out _).mono ?_; rintro _ wv ⟨rfl, hwv⟩; rw [hwv]; clear hwv wv
      go_wp2_with fail
      refine (HIN.out _).mono ?_; rintro _ wv ⟨rfl, hwv⟩; rw [← hwv]; clear hwv wv
      go_wp2_with fail
      go_ret2
      exact HP.out
  · rw [h1]
    rw [ho] at HV
    have HIN := Lib.hid (fun w => l1In_any z 1 8 w)
    rw [hz] at HIN
    have hz2 := inB_iff.1 hz
    obtain ⟨l, rfl⟩ := Int.eq_ofNat_of_zero_le (show 0 ≤ z by omega)
    rw [Int.toNat_natCast]
    have hl8 : l ≤ 8 := by omega
    have hl1 : 1 ≤ l := by omega
    obtain ⟨N, hN⟩ : ∃ N, 2 ^ l = N := ⟨_, rfl⟩
    have hN256 : N ≤ 256 := by rw [← hN]; exact pow_8 hl8
    have hAL : (allW l).length = N := by rw [allW_length, hN]
    have HNW : Hid (∀ m, m < N → (allW l).getD m ByteArray.empty = numW l m) := fun m hm => by
      rw [← numW_all, hN]
      simp [hm]
    have HWD := Lib.hid (fun n w (h : n < N) => l12Word_any n l w (by rw [hN]; exact h) hl8)
    have HTS := Lib.hid (fun i (h : i < N) => truTo_succ (fun u => Fm.holds (wSt' u) φ env0) (allW l) i (by rw [hAL]; exact h))
    have HSZ : Hid (∀ m, m < N → (numW l m).size = l) := fun m hm => by
      rw [← HNW.out m hm]
      exact allW_size l _ (by simp [hAL, hm])
    have HTE : Hid ((allW l).take N = allW l) := List.take_of_length_le (by omega)
    have HTL : Hid (∀ i, ((allW l).take i).length ≤ 256) := fun i => by rw [List.length_take]; omega
    have a1 := readB_at hr
    have HTT : Hid (∀ u : ByteArray, u.size = l → ∀ w, Calls Tryd.prog 65 #[strV u.size (bitsOf (letB u) u.size) (gridOf ltB u.size), .string f, .agg #[.int .i64 0, .int .i64 0, .int .i64 0, .int .i64 0]] w fun en w' => en = .returned (.bool (Fm.holds (wSt' u) φ env0)) ∧ Below w.heap.size w w') := fun u hu w =>
      l2True_any f (by have := a1.2; omega) u.size (bitsOf (letB u) u.size) (gridOf ltB u.size) (by omega) (bitsOf_size _ _) (bitsOf_size _ _) φ a1.1 env0 (fun v => by unfold env0; omega) w
    have hsh : IntKind.i64.wrap (2 ^ l) = (N : Int) := by
      rw [show (2 : Int) ^ l = ((2 ^ l : Nat) : Int) by simp, hN]
      exact IntWalk.i64_in _ (by omega)
    have hl8I : (l : Int) ≤ 8 := by omega
    have hcv : IntKind.u64.wrap (l : Int) = l := IntWalk.u64_in _ (by omega)
    have htn : (l : Int).toNat = l := by omega
    have HR : Hid (truW φ l = (allW l).filter fun u => Fm.holds (wSt' u) φ env0) := rfl
    rw [HR.out]
    clear hN hAL hr ho hz hz2 h1 a1 HR
    obtain ⟨AL, hAL⟩ : ∃ A, allW l = A := ⟨_, rfl⟩
    rw [hAL] at HNW HTS HTE HTL ⊢
    clear hAL
    obtain ⟨pr, hpr⟩ : ∃ p : ByteArray → Bool, (fun u => Fm.holds (wSt' u) φ env0) = p := ⟨_, rfl⟩
    have hpx : ∀ u, Fm.holds (wSt' u) φ env0 = pr u := fun u => by rw [← hpr]
    rw [hpr] at HTS ⊢
    simp only [hpx] at HTT HTS
    clear hpr hpx
    go_enter Tryd.func32, Tryd.ntmps32
    go_wp2_with fail
    refine (HV.out _).mono ?_; rintro _ wv ⟨rfl, hwv⟩; rw [hwv]; clear hwv wv
    go_wp2_with fail
    refine (HIN.out _).mono ?_; rintro _ wv ⟨rfl, hwv⟩; rw [← hwv]; clear hwv wv
    go_wp2_with fail
    go_loopw [7, 6] (fun i v wr => ∃ m : Nat, m ≤ N ∧ i = .int .i64 (m : Int) ∧ Hid (Ws w wr v ((AL.take m).filter pr))) (fun i _ _ => N - (intOf i).toNat)
    case atStart => exact ⟨0, by omega, rfl, HO0.out⟩
    case round =>
      obtain ⟨m, hm, rfl, HI⟩ := hrel
      by_cases hlt : m < N
      · have hmI : (m : Int) < (N : Int) := by omega
        have HW1 := Lib.hid (fun w => HWD.out m w hlt)
        have HT1 := Lib.hid (HTS.out m hlt)
        rw [HNW.out m hlt] at HT1
        have hsz := HSZ.out m hlt
        have HL1 := Lib.hid (HTT.out (numW l m) hsz)
        have HS1 := Lib.hid (fun w => l12Structure_any (numW l m) w (by omega))
        have HLL : Hid (((AL.take m).filter pr).length + 1 ≤ 2000000) := by
          have h1 := List.length_filter_le pr (AL.take m)
          have h2 := HTL.out m
          show _ ≤ _
          omega
        unfold wordV at HS1
        clear hsz
        generalize numW l m = x at *
        generalize bitsOf (letB x) x.size = S at *
        generalize gridOf ltB x.size = R at *
        obtain ⟨b, hb⟩ : ∃ b, pr x = b := ⟨_, rfl⟩
        rw [hb] at HT1 HL1
        clear hb
        unfold strV at HS1 HL1
        go_wp2_with fail
        refine (HW1.out _).mono ?_; rintro _ wv ⟨rfl, hwv⟩; rw [← hwv]; clear hwv wv
        go_wp2_with fail
        refine (HS1.out _).mono ?_; rintro _ w3 ⟨rfl, hb3⟩
        have HI3 : Hid (Ws w w3 u6 ((AL.take m).filter pr)) := ⟨HI.out.out.below hb3, HI.out.old.trans (hb3.mono HI.out.old.size)⟩
        clear hb3
        go_wp2_with fail
        refine (HL1.out _).mono ?_; rintro _ w4 ⟨rfl, hb4⟩
        have HI4 : Hid (Ws w w4 u6 ((AL.take m).filter pr)) := ⟨HI3.out.out.below hb4, HI3.out.old.trans (hb4.mono HI3.out.old.size)⟩
        clear hb4
        cases b
        · go_wp2_with fail
          go_roundw
          case rel => exact ⟨m + 1, by omega, by go_num, by rw [HT1.out, if_neg (by simp)]; exact HI4.out⟩
          case measure => simp [intOf]; omega
        · go_wp2_with (first | (at_builtin; refine wpList_ownSAll (M := [x]) (HI4.out.out.below ((Below.refl _ _).alloc (Nat.le_refl _) _)) (TextsAt.one w4 x) HLL.out rfl (.tmp 34) (.tmp 36) rfl rfl rfl ?_; intro v' w' ho hg hat; have HI5 : Hid (Ws w w' v' ((AL.take m).filter pr ++ [x])) := (⟨ho, (HI4.out.old.alloc HI4.out.old.size _).grown hg (by have := HI4.out.old.size; simp; omega) (fun k hk => by obtain ⟨k1, e1, l1, _⟩ := HI4.out.out.block; rw [e1] at hk; have := Option.some.inj hk; omega)⟩); clear ho hg hat) | fail)
          go_roundw
          case rel => exact ⟨m + 1, by omega, by go_num, by have h := HI5.out.out; rw [HT1.out]; first | exact HI5.out | (rw [if_pos trivial]; exact HI5.out)⟩
          case measure => simp [intOf]; omega
      · have hmN : m = N := by omega
        have HP : Hid (WdsP w (some (AL.filter pr)) (.returned (.tuple #[u6, .bool true])) wr) := by
          refine ⟨HI.out.old, .inr ⟨_, _, rfl, rfl, ?_⟩⟩
          have h := HI.out.out
          rw [hmN, HTE.out] at h
          exact h
        have hmI : ¬ (m : Int) < (N : Int) := by omega
        clear hmN
        go_wp2_with fail
        go_ret2
        exact HP.out
end Go.Proofs.YtadgiknnejjplaaDoor
/- Plain facts of the words of which a sentence is true. -/
namespace Go.Proofs.YtadgiknnejjplaaDoor
open Go.RowKit

theorem less_tail : ∀ (a b : List UInt8) (x y : UInt8), a.length = b.length → Op.bytesLess a b = true → Op.bytesLess (a ++ [x]) (b ++ [y]) = true
  | [], [], x, y, _, h => by simp [Op.bytesLess] at h
  | c :: a, d :: b, x, y, hl, h => by
    simp only [Op.bytesLess, List.cons_append, Bool.or_eq_true, Bool.and_eq_true] at h ⊢
    rcases h with h | ⟨h1, h2⟩
    · exact .inl h
    · exact .inr ⟨h1, less_tail a b x y (by simpa using hl) h2⟩
theorem less_last : ∀ (a : List UInt8) (x y : UInt8), x < y → Op.bytesLess (a ++ [x]) (a ++ [y]) = true
  | [], x, y, h => by simp [Op.bytesLess, h]
  | c :: a, x, y, h => by simp [Op.bytesLess, less_last a x y h]
/-- One text stands before another. -/
def LB (a b : ByteArray) : Prop := Op.bytesLess a.toList b.toList = true
theorem allW_sorted : ∀ n, (allW n).Pairwise LB
  | 0 => by simp [allW]
  | n + 1 => by
    rw [allW, List.pairwise_flatMap]
    refine ⟨fun u _ => ?_, ?_⟩
    · refine List.Pairwise.cons (fun v hv => ?_) (List.pairwise_singleton _ _)
      obtain rfl : v = _ := by simpa using hv
      unfold LB
      rw [ByteArray.toList_eq, ByteArray.toList_eq, ByteArray.data_append, ByteArray.data_append, Array.toList_append, Array.toList_append]
      exact less_last _ _ _ (by decide)
    · refine (allW_sorted n).imp_of_mem ?_
      intro a b ha hb hab x hx y hy
      have h1 := allW_size n a ha
      have h2 := allW_size n b hb
      simp at hx hy
      rcases hx with rfl | rfl <;> rcases hy with rfl | rfl <;> (unfold LB at hab ⊢; rw [ByteArray.toList_eq, ByteArray.toList_eq] at hab; rw [ByteArray.toList_eq, ByteArray.toList_eq, ByteArray.data_append, ByteArray.data_append, Array.toList_append, Array.toList_append]; exact less_tail _ _ _ _ (by simp; omega) hab)
theorem truW_sorted (φ : Fm.T) (n : Nat) : (truW φ n).Pairwise LB := (allW_sorted n).filter _
theorem truW_size {φ : Fm.T} {n : Nat} {u : ByteArray} (h : u ∈ truW φ n) : u.size = n := allW_size n u (List.mem_filter.1 h).1
theorem allW_xy : ∀ (n : Nat) (u : ByteArray), u ∈ allW n → u.data.toList.all isXY = true
  | 0, u, h => by simp [allW] at h; subst h; rfl
  | n + 1, u, h => by
    obtain ⟨x, hx, hu⟩ := List.mem_flatMap.1 h
    have := allW_xy n x hx
    simp at hu
    rcases hu with rfl | rfl <;> (simp only [ByteArray.data_append, Array.toList_append, List.all_append, this]; decide)
theorem allW_word {n : Nat} (h1 : 1 ≤ n) (h8 : n ≤ 8) {u : ByteArray} (h : u ∈ allW n) : wordB u = true := by
  unfold wordB
  rw [Bool.and_eq_true]
  exact ⟨inB_iff.2 (by have := allW_size n u h; omega), allW_xy n u h⟩
theorem accW_tru {f u : ByteArray} {φ : Fm.T} {n : Nat} (hr : readB f = some φ) (h0 : Fm.free φ = 0) (h1 : 1 ≤ n) (h8 : n ≤ 8) (h : u ∈ truW φ n) : accW f u = (true, true) := by
  obtain ⟨ha, hb⟩ := List.mem_filter.1 h
  unfold accW
  rw [if_pos (allW_word h1 h8 ha)]
  unfold hin
  rw [hr]
  simp only [if_pos h0]
  exact congrArg (·, true) hb
theorem truW_neg (φ : Fm.T) (n : Nat) : (truW φ n).length + (truW (.neg φ) n).length = 2 ^ n := by
  rw [← allW_length n]
  unfold truW
  generalize allW n = l
  induction l with
  | nil => rfl
  | cons u l ih =>
    have hn : ∀ v, Fm.holds (wSt' v) (.neg φ) env0 = !Fm.holds (wSt' v) φ env0 := fun v => rfl
    simp only [hn] at ih ⊢
    simp only [List.filter_cons]
    cases Fm.holds (wSt' u) φ env0 <;> simp <;> omega
theorem readB_neg {f : ByteArray} {φ : Fm.T} (h : readB f = some φ) (hf : f.size ≤ 3999) : readB (⟨#[33]⟩ ++ f) = some (.neg φ) := by
  unfold readB at h ⊢
  obtain ⟨h1, h2⟩ := Fm.read_iff.1 h
  refine Fm.read_iff.2 ⟨?_, ?_⟩
  · simp [Fm.text, h1]
  · simp; omega
theorem free_neg (φ : Fm.T) : Fm.free (.neg φ) = Fm.free φ := rfl
end Go.Proofs.YtadgiknnejjplaaDoor
/- The walk of the law FnWordsOf: it returns true. Condition: the bytes are readable. -/
namespace Go.Proofs.YtadgiknnejjplaaDoor
open Go.RowKit
set_option linter.unusedVariables false
set_option maxRecDepth 100000

theorem rowLen {k : IntKind} {w : World} {a : Option Addr} {len cap : Nat} {zs : List Int} (h : IsRow k w a len cap zs) : len ≤ maxLen := by
  rcases h with ⟨rfl, rfl, rfl, rfl⟩ | ⟨x, rfl, h2, h3, h4, h5, h6⟩ <;> omega
/-- What WordsOf leaves, as texts and a truth. -/
def WdsX (w : World) (L : List ByteArray) (b : Bool) (e : Ending) (w' : World) : Prop := ∃ v, e = .returned (.tuple #[v, .bool b]) ∧ TextsAt w' v L ∧ Below w.heap.size w w'
theorem WdsP.x {w : World} {r : Option (List ByteArray)} {e : Ending} {w' : World} (h : WdsP w r e w') : WdsX w (r.getD []) r.isSome e w' := by
  obtain ⟨hb, ⟨rfl, v, rfl, hv⟩ | ⟨v, L, rfl, rfl, hv⟩⟩ := h
  · refine ⟨v, rfl, ?_, hb⟩
    rcases hv with rfl | h
    · exact TextsAt.nil _
    · exact h.texts
  · exact ⟨v, rfl, hv.texts, hb⟩
/-- What the law asks of the words. -/
structure WdsF (f : ByteArray) (n : Nat) (L M : List ByteArray) : Prop where
  size : ∀ i, i < L.length → (L.getD i ByteArray.empty).size = n
  acc : ∀ i, i < L.length → accW f (L.getD i ByteArray.empty) = (true, true)
  up : ∀ i, 0 < i → i < L.length → Op.bytesLess (L.getD (i - 1) ByteArray.empty).toList (L.getD i ByteArray.empty).toList = true
  all : L.length + M.length = 2 ^ n
theorem wdsF {f : ByteArray} {φ : Fm.T} {n : Nat} (hr : readB f = some φ) (h0 : Fm.free φ = 0) (h1 : 1 ≤ n) (h8 : n ≤ 8) : WdsF f n (truW φ n) (truW (.neg φ) n) := by
  have hm : ∀ i, i < (truW φ n).length → (truW φ n).getD i ByteArray.empty ∈ truW φ n := fun i hi => by simp [hi]
  refine ⟨fun i hi => truW_size (hm i hi), fun i hi => accW_tru hr h0 h1 h8 (hm i hi), fun i hi hl => ?_, truW_neg φ n⟩
  have h := List.pairwise_iff_getElem.1 (truW_sorted φ n) (i - 1) i (by omega) hl (by omega)
  have e1 : (truW φ n).getD i ByteArray.empty = (truW φ n)[i] := by simp [hl]
  have e2 : (truW φ n).getD (i - 1) ByteArray.empty = (truW φ n)[i - 1]'(by omega) := by simp [show i - 1 < (truW φ n).length by omega]
  rw [e1, e2]; exact h

set_option maxHeartbeats 2000000 in
theorem fnWordsOf_walk (a0 : Option Addr) (len0 cap0 : Nat) (z0 : List Int) (w : World) (w0 : IsRow .u8 w a0 len0 cap0 z0) :
    Calls Tryd.prog 7 #[.slice a0 len0 cap0] w fun e w' => e = .returned (.bool true) ∧ Below w.heap.size w w' := by
  have m0 := rowLen w0
  unfold maxLen at m0
  have W0 := Lib.hid w0; clear w0
  by_cases l0 : (len0 : Int) ≤ 1048576
  · go_enter Tryd.func7, Tryd.ntmps7
    go_wp2_with fail
    refine (DrawWordsOf_any _ _ _ _ _ W0.out).mono ?_; rintro e w1 ⟨f, n, hf, hn, rfl, hb⟩
    have HB1 := Lib.hid hb; clear hb
    have HI := Lib.hid (fun w => (implWordsOf_any f (by omega) (n : Int) w).mono fun _ _ h => h.x)
    have HS := Lib.hid (fun w => (specWordsOf_any f (by omega) (n : Int) w).mono fun _ _ h => h.x)
    rcases wordsRes_is f (n : Int) with ⟨h1, _⟩ | ⟨φ, hr, hk, hz, h1⟩
    · rw [h1] at HI HS
      simp only [Option.getD_none, Option.isSome_none] at HI HS
      clear h1
      go_wp2_with fail
      refine (HI.out _).mono ?_; rintro e w2 ⟨v, rfl, hv, hb⟩
      have HV := Lib.hid hv
      have HB2 := Lib.hid (HB1.out.trans (hb.mono HB1.out.size)); clear hb hv
      go_wp2_with fail
      refine (HS.out _).mono ?_; rintro e w3 ⟨u, rfl, hu, hb⟩
      have HU := Lib.hid hu
      have HV3 := Lib.hid (HV.out.below hb)
      have HB3 := Lib.hid (HB2.out.trans (hb.mono HB2.out.size)); clear hb hu
      obtain ⟨av, cv, rfl, hv1, hv2, hvc⟩ := HV3.out.view
      obtain ⟨au, cu, rfl, hu1, hu2, huc⟩ := HU.out.view
      clear hvc huc HV HU HV3
      unfold maxLen at hv2 hu2
      simp only [List.length_nil] at *
      go_wp2_with fail
      go_ret
      exact ⟨rfl, HB3.out⟩
    · have hz2 := inB_iff.1 hz
      have h0 : Fm.free φ = 0 := by rw [okV_some hr, decide_eq_true_iff, Nat.div_one] at hk; exact hk
      rw [h1] at HI HS
      simp only [Option.getD_some, Option.isSome_some, Int.toNat_natCast] at HI HS
      have HF := Lib.hid (wdsF hr h0 (n := n) (by omega) (by omega))
      have HN : Hid (∀ w, Calls Tryd.prog 31 #[.string (⟨#[33]⟩ ++ f), .int .i64 (n : Int)] w (WdsX w (truW (.neg φ) n) true)) := fun w => by
        have h := (implWordsOf_any (⟨#[33]⟩ ++ f) (by rw [ByteArray.size_append]; have : (⟨#[33]⟩ : ByteArray).size = 1 := rfl; omega) (n : Int) w).mono fun _ _ h => h.x
        rw [wordsRes_some (readB_neg hr (by omega)), if_pos ⟨h0, hz2.1, hz2.2⟩] at h
        simpa using h
      generalize truW φ n = L at *
      generalize truW (.neg φ) n = M at *
      have hpow := pow_8 (n := n) (by omega)
      have hall := HF.out.all
      have hn8 : (n : Int) ≤ 8 := by omega
      clear h1 hr hk hz h0
      go_wp2_with fail
      refine (HI.out _).mono ?_; rintro e w2 ⟨v, rfl, hv, hb⟩
      have HV := Lib.hid hv
      have HB2 := Lib.hid (HB1.out.trans (hb.mono HB1.out.size)); clear hb hv
      go_wp2_with fail
      refine (HS.out _).mono ?_; rintro e w3 ⟨u, rfl, hu, hb⟩
      have HU := Lib.hid hu
      have HV3 := Lib.hid (HV.out.below hb)
      have HB3 := Lib.hid (HB2.out.trans (hb.mono HB2.out.size)); clear hb hu
      obtain ⟨av, cv, rfl, hv1, hv2, hvc⟩ := HV3.out.view
      obtain ⟨au, cu, rfl, hu1, hu2, huc⟩ := HU.out.view
      have HVC := Lib.hid hvc
      have HUC := Lib.hid huc
      unfold maxLen at hv2 hu2
      clear hvc huc HV HU HV3 HI HS
      go_wp2_with fail
      go_loopw [9] (fun q wr => ∃ i : Nat, i ≤ L.length ∧ q = .int .i64 i ∧ Hid (Below w3.heap.size w3 wr)) (fun q _ => L.length - (intOf q).toNat)
      case atStart => exact ⟨0, by omega, rfl, Below.refl _ _⟩
      case round =>
        obtain ⟨i, hi, rfl, HBW⟩ := hrel
        by_cases hlt : i < L.length
        · obtain ⟨gv, ov, rfl, hgv, hcv⟩ := HVC.out (by omega)
          obtain ⟨gu, ou, rfl, hgu, hcu⟩ := HUC.out (by omega)
          have d1 := (HBW.out.cell (p := ⟨gv, ov + i, none⟩) hgv).trans (hcv i hlt)
          have d2 := (HBW.out.cell (p := ⟨gu, ou + i, none⟩) hgu).trans (hcu i hlt)
          have HC := Lib.hid (fun W => implAccepts_any f (L.getD i ByteArray.empty) (by omega) (by have := HF.out.size i hlt; omega) W)
          rw [HF.out.acc i hlt] at HC
          have hsz := HF.out.size i hlt
          have hup := HF.out.up i
          have d3 : Hid (0 < i → ∀ wo, Below wr.heap.size wr wo → wo.cell? ⟨gv, ov + (i - 1), none⟩ = some (.string (L.getD (i - 1) ByteArray.empty))) := fun h wo hb => (hb.cell (p := ⟨gv, ov + (i - 1), none⟩) (Nat.lt_of_lt_of_le hgv HBW.out.size)).trans ((HBW.out.cell (p := ⟨gv, ov + (i - 1), none⟩) hgv).trans (hcv (i - 1) (by omega)))
          have hilt : (i : Int) < (L.length : Int) := by omega
          clear hcv hcu HVC HUC
          generalize L.getD i ByteArray.empty = x at *
          go_wp2_with fail
          refine (HC.out _).mono ?_; rintro e wo ⟨rfl, hb2⟩
          have e1 := (hb2.cell (p := ⟨gv, ov + i, none⟩) (Nat.lt_of_lt_of_le hgv HBW.out.size)).trans d1
          have e2 := (hb2.cell (p := ⟨gu, ou + i, none⟩) (Nat.lt_of_lt_of_le hgu HBW.out.size)).trans d2
          have e3 : Hid (0 < i → wo.cell? ⟨gv, ov + (i - 1), none⟩ = some (.string (L.getD (i - 1) ByteArray.empty))) := fun h => d3.out h wo hb2
          have HBO := Lib.hid (HBW.out.trans (hb2.mono HBW.out.size))
          have hszI : (x.size : Int) = (n : Int) := by omega
          clear hb2 d1 d2 d3 hsz
          go_upto_region 12 with fail
          rcases Nat.eq_zero_or_pos i with rfl | hi0
          · rw [Nat.add_zero] at e1 e2
            have f1 := fun s => Since.cell e1 s
            have f2 := fun s => Since.cell e2 s
            clear e1 e2 hup e3
            refine wp_region_since (by kernel_rfl) (by kernel_rfl) ?_
            repeat (go_big_quiet_step (fail))
            refine wpQuiet_nil ?_
            intro w5 hb2
            have HB5 := Lib.hid (HBO.out.trans (hb2.mono HBO.out.size))
            clear hb2 f1 f2
            go_wp2_with fail
            go_roundw
            case rel => exact ⟨0 + 1, by omega, by go_num, HB5.out⟩
            case measure => simp [intOf]; omega
          · have f1 := fun s => Since.cell e1 s
            have f2 := fun s => Since.cell e2 s
            clear e1 e2
            have e3' := e3.out hi0
            have hup' := hup hi0 hlt
            generalize L.getD (i - 1) ByteArray.empty = y at *
            have hiI : (0 : Int) < (i : Int) := by omega
            obtain ⟨k, rfl⟩ : ∃ k, i = k + 1 := ⟨i - 1, by omega⟩
            rw [Nat.add_sub_cancel] at e3'
            have f3 := fun s => Since.cell e3' s
            have hk1 : ((k + 1 : Nat) : Int) - 1 = (k : Int) := by omega
            have hk2 : (k : Int) < (L.length : Int) := by omega
            clear e3 e3' hup
            refine wp_region_since (by kernel_rfl) (by kernel_rfl) ?_
            repeat (go_big_quiet_step (fail))
            refine wpQuiet_nil ?_
            intro w5 hb2
            have HB5 := Lib.hid (HBO.out.trans (hb2.mono HBO.out.size))
            clear hb2 f1 f2 f3
            go_wp2_with fail
            go_roundw
            case rel => exact ⟨k + 1 + 1, by omega, by go_num, HB5.out⟩
            case measure => simp [intOf]; omega
        · have hBI : Hid (Below w.heap.size w wr) := HB3.out.trans (HBW.out.mono HB3.out.size)
          obtain rfl : i = L.length := by omega
          go_wp2_with fail
          refine (HN.out _).mono ?_; rintro e w4 ⟨t, rfl, ht, hb⟩
          have HB4 := Lib.hid (hBI.out.trans (hb.mono hBI.out.size)); clear hb
          obtain ⟨at', ct, rfl, ht1, ht2, htc⟩ := ht.view
          clear htc
          unfold maxLen at ht2
          have hI : (L.length : Int) + (M.length : Int) = (2 : Int) ^ n := by
            rw [← Int.natCast_add, hall, Int.natCast_pow]; rfl
          have hp : (0 : Int) ≤ (2 : Int) ^ n ∧ (2 : Int) ^ n ≤ 256 := by omega
          have hw : wrap64 ((2 : Int) ^ n) = (2 : Int) ^ n := IntWalk.wrap64_in _ (by omega)
          have HT : Hid (((L.length : Int) + (M.length : Int) == wrap64 ((2 : Int) ^ n)) = true) := by
            show _ = _
            rw [hw, hI]
            simp
          clear hI hp hw
          go_wp2_with fail
          go_ret
          exact ⟨ret_bool HT.out, HB4.out⟩
  · go_enter Tryd.func7, Tryd.ntmps7
    go_wp2_with fail
    go_ret
    exact ⟨rfl, Below.refl _ _⟩
end Go.Proofs.YtadgiknnejjplaaDoor
