/- Contracts of the program's functions and what they compute: part 29. Conditions: those that each theorem states. -/
import Derived.Test.YtofmagiahmmmgaaGreatDoorP53n1
import Derived.Deep.QuietTactic
import Derived.BigQuiet
import Derived.OpenShut
import Derived.Laws.BitsAllLaws
import Derived.Laws.BitsLemmas
import Derived.Deep.Draws
import Derived.OwnWalk
import Derived.Maps.AppendAt
import Derived.Maps.RangeWalk
import Derived.Maps.Range
namespace Go.Proofs.YtofmagiahmmmgaaGreatDoor
open Go.RowKit
/-- The reader in block b has drawn k numbers; its bytes are readable and lie in an older block. -/
structure Rd (w : World) (b k : Nat) (a : Option Addr) (len cap : Nat) (f : Nat → Int) : Prop where
  c0 : w.cell? ⟨b, 0, none⟩ = some (.slice a len cap)
  c1 : w.cell? ⟨b, 1, none⟩ = some (.int .i64 (k : Int))
  fr : w.frozen? ⟨b, 1, none⟩ = false
  short : len ≤ 2000
  room : len ≤ cap
  row : len = 0 ∨ ∃ b' off, a = some ⟨b', off, none⟩ ∧ b' < b ∧ (∀ j, j < len → w.cell? ⟨b', off + j, none⟩ = some (.int .u8 (f j))) ∧ ∀ j, 0 ≤ f j ∧ f j ≤ 255
def RdAt (w : World) (b k : Nat) : Prop := ∃ a len cap f, Rd w b k a len cap f
/-- What a draw of a number below n leaves. -/
def Drew (b k : Nat) (n : Int) (w : World) (e : Ending) (w' : World) : Prop :=
  ∃ v : Int, e = .returned (.int .i64 v) ∧ 0 ≤ v ∧ v < n ∧ RdAt w' b (k + 1) ∧ w.grownBy w' (some b)
theorem RdAt.block {w : World} {b k : Nat} (h : RdAt w b k) : b < w.heap.size := by
  obtain ⟨a, len, cap, f, c0, _⟩ := h
  exact World.block_lt_of_cell? w ⟨b, 0, none⟩ c0
theorem RdAt.step {w : World} {b k : Nat} (h : RdAt w b k) (m : Nat) : RdAt ((w.setCell ⟨b, 1, none⟩ (.int .i64 ((k : Int) + 1))).drewN m) b (k + 1) := by
  obtain ⟨a, len, cap, f, c0, c1, fr, short, room, row⟩ := h
  refine ⟨a, len, cap, f, ?_, ?_, ?_, short, room, ?_⟩
  · rw [World.cell?_drewN, World.cell?_setCell_other _ _ _ _ (by simp)]; exact c0
  · rw [World.cell?_drewN, World.cell?_setCell_same _ _ _ c1]; rfl
  · rw [World.frozen?_drewN, World.frozen?_setCell]; exact fr
  · rcases row with h | ⟨b', off, rfl, hb, hc, hf⟩
    · exact .inl h
    · refine .inr ⟨b', off, rfl, hb, fun j hj => ?_, hf⟩
      rw [World.cell?_drewN, World.cell?_setCell_other _ _ _ _ (by intro h; injection h; omega)]
      exact hc j hj
theorem grown_step (w : World) (b : Nat) (u : Value) (m : Nat) : w.grownBy ((w.setCell ⟨b, 1, none⟩ u).drewN m) (some b) :=
  ⟨rfl, rfl, rfl, by simp [World.setCell, World.drewN], fun i _ hne => Below.heap_setCell w ⟨b, 1, none⟩ u i (by rintro rfl; exact hne rfl)⟩
theorem Drew.mk {w : World} {b k : Nat} {n : Int} (v : Int) (h : RdAt w b k) (m : Nat) (h0 : 0 ≤ v) (h1 : v < n) {e : Ending} (he : e = .returned (.int .i64 v)) :
    Drew b k n w e ((w.setCell ⟨b, 1, none⟩ (.int .i64 ((k : Int) + 1))).drewN m) :=
  ⟨v, he, h0, h1, h.step m, grown_step _ _ _ _⟩
theorem ofInt_i64 (a : Nat) (ha : a < 9223372036854775808) : (BitVec.ofInt 64 (a : Int)).toNat = a := by
  rw [BitVec.ofInt_natCast, BitVec.toNat_ofNat]; exact Nat.mod_eq_of_lt (by omega)
theorem i64_xor_nat (a b : Nat) (ha : a < 9223372036854775808) (hb : b < 9223372036854775808) : bits .xor .i64 (a : Int) (b : Int) = ((a ^^^ b : Nat) : Int) := by
  have hx : a ^^^ b < 2 ^ 63 := Nat.xor_lt_two_pow (by omega) (by omega)
  show IntKind.i64.wrap ((BitVec.ofInt 64 (a : Int) ^^^ BitVec.ofInt 64 (b : Int)).toNat : Int) = _
  rw [BitVec.toNat_xor, ofInt_i64 a ha, ofInt_i64 b hb, IntKind.wrap_i64]
  omega
theorem wrap_in {x : Int} (h0 : 0 ≤ x) (h1 : x < 9223372036854775808) : wrap64 x = x := by
  unfold wrap64; omega
theorem mix_bounds (x y : Int) (k len : Nat) (n : Int) (x0 : 0 ≤ x) (x1 : x ≤ 255) (y0 : 0 ≤ y) (y1 : y ≤ 255) (hk : k < 1099511627776) (hl : (0 : Int) < (len : Int)) (n0 : 1 ≤ n) :
    0 ≤ (bits BinOp.xor IntKind.i64 (wrap64 (x * 131 + y * 1117 + (k : Int) * 29 + wrap64 (wrap64 ((k : Int) / (len : Int)) * 53)))
          (wrap64 ((wrap64 (x * 131 + y * 1117 + (k : Int) * 29 + wrap64 (wrap64 ((k : Int) / (len : Int)) * 53))).tdiv 64))).tmod n ∧
    (bits BinOp.xor IntKind.i64 (wrap64 (x * 131 + y * 1117 + (k : Int) * 29 + wrap64 (wrap64 ((k : Int) / (len : Int)) * 53)))
          (wrap64 ((wrap64 (x * 131 + y * 1117 + (k : Int) * 29 + wrap64 (wrap64 ((k : Int) / (len : Int)) * 53))).tdiv 64))).tmod n < n := by
  have d0 : 0 ≤ (k : Int) / (len : Int) := Int.ediv_nonneg (by omega) (by omega)
  have d1 : (k : Int) / (len : Int) ≤ k := Int.ediv_le_self _ (by omega)
  generalize (k : Int) / (len : Int) = d at *
  have e1 : wrap64 d = d := wrap_in d0 (by omega)
  have e2 : wrap64 (d * 53) = d * 53 := wrap_in (by omega) (by omega)
  rw [e1, e2]
  obtain ⟨s, hs⟩ : ∃ s : Nat, x * 131 + y * 1117 + (k : Int) * 29 + d * 53 = s := ⟨(x * 131 + y * 1117 + (k : Int) * 29 + d * 53).toNat, by omega⟩
  have hs1 : s < 9223372036854775808 := by omega
  rw [hs, wrap_in (by omega) (by omega)]
  have e3 : ((s : Int)).tdiv 64 = ((s / 64 : Nat) : Int) := rfl
  rw [e3, wrap_in (by omega) (by omega), i64_xor_nat s (s / 64) hs1 (by omega)]
  exact ⟨Int.tmod_nonneg _ (by omega), Int.tmod_lt_of_pos _ (by omega)⟩
theorem pick_any (w : World) (b k : Nat) (n : Int) (h : RdAt w b k) (hk : k < 1099511627776) (n0 : 1 ≤ n) (n1 : n ≤ 4611686018427387904) :
    Calls Tryz.prog 18 #[.pointer (some ⟨b, 0, none⟩), .int .i64 n] w (Drew b k n w) := by
  have HD := fun v => Drew.mk (n := n) v h
  obtain ⟨a, len, cap, f, c0, c1, fr, short, room, row⟩ := h
  have HDD := Lib.hid HD; clear HD
  by_cases h0 : len = 0
  · subst h0
    clear row
    go_enter Tryz.func18, Tryz.ntmps18
    go_wp2
    go_ret
    exact HDD.out 0 0 (by omega) (by omega) rfl
  · obtain ⟨b', off, rfl, hb, hc, hf⟩ := row.resolve_left h0
    clear row
    have hl0 : (0 : Int) < (len : Int) := by omega
    have hl1 : ((len : Int) == 0) = false := by simp; omega
    have hn1 : ¬ n < 1 := by omega
    by_cases hlt : k < len
    · have hck := hc k hlt
      obtain ⟨hf0, hf1⟩ := hf k
      have hlt' : (k : Int) < (len : Int) := by omega
      generalize f k = v at *
      clear hc hf
      go_enter Tryz.func18, Tryz.ntmps18
      go_wp2
      go_ret
      refine HDD.out (v % n) 0 (Int.emod_nonneg _ (by omega)) (Int.emod_lt_of_pos _ (by omega)) rfl
    · have hlt' : (len : Int) ≤ (k : Int) := by omega
      have i0 := hc (k % len) (Nat.mod_lt _ (by omega))
      have i1 := hc ((k * 7 + 3) % len) (Nat.mod_lt _ (by omega))
      obtain ⟨x0, x1⟩ := hf (k % len)
      obtain ⟨y0, y1⟩ := hf ((k * 7 + 3) % len)
      generalize f (k % len) = x at *
      generalize f ((k * 7 + 3) % len) = y at *
      have p0 : ((k : Int) % (len : Int)) = ((k % len : Nat) : Int) := by simp
      have p1 : (((k : Int) * 7 + 3) % (len : Int)) = (((k * 7 + 3) % len : Nat) : Int) := by simp
      have q0 : k % len < len := Nat.mod_lt _ (by omega)
      have q1 : (k * 7 + 3) % len < len := Nat.mod_lt _ (by omega)
      generalize k % len = m0 at *
      generalize (k * 7 + 3) % len = m1 at *
      clear hc hf hlt
      go_enter Tryz.func18, Tryz.ntmps18
      go_wp2
      go_quiet (fail)
      go_wp2
      go_ret
      obtain ⟨r0, r1⟩ := mix_bounds x y k len n x0 x1 y0 y1 hk hl0 n0
      exact HDD.out _ nq r0 r1 rfl
end Go.Proofs.YtofmagiahmmmgaaGreatDoor
namespace Go.Proofs.YtofmagiahmmmgaaGreatDoor
open Go.RowKit
/-- A reader that has drawn at most K numbers. -/
def RdB (w : World) (b K : Nat) : Prop := ∃ k, k ≤ K ∧ RdAt w b k
theorem RdB.mono {w : World} {b K K' : Nat} (h : RdB w b K) (hk : K ≤ K') : RdB w b K' := by
  obtain ⟨k, h1, h2⟩ := h
  exact ⟨k, by omega, h2⟩
theorem RdB.block {w : World} {b K : Nat} (h : RdB w b K) : b < w.heap.size := by
  obtain ⟨k, _, h2⟩ := h
  exact h2.block
def DrewB (b K : Nat) (n : Int) (w : World) (e : Ending) (w' : World) : Prop :=
  ∃ v : Int, e = .returned (.int .i64 v) ∧ 0 ≤ v ∧ v < n ∧ RdB w' b (K + 1) ∧ w.grownBy w' (some b)
theorem pickB (w : World) (b K : Nat) (n : Int) (h : RdB w b K) (hk : K < 1099511627776) (n0 : 1 ≤ n) (n1 : n ≤ 4611686018427387904) :
    Calls Tryz.prog 18 #[.pointer (some ⟨b, 0, none⟩), .int .i64 n] w (DrewB b K n w) := by
  obtain ⟨k, h1, h2⟩ := h
  refine (pick_any w b k n h2 (by omega) n0 n1).mono fun e w' ⟨v, he, v0, v1, hr, hg⟩ => ⟨v, he, v0, v1, ⟨k + 1, by omega, hr⟩, hg⟩
theorem RdAt.grown {w w' : World} {b k : Nat} (h : RdAt w b k) (hg : w.grownBy w' none) : RdAt w' b k := by
  have hb := h.block
  obtain ⟨a, len, cap, f, c0, c1, fr, short, room, row⟩ := h
  refine ⟨a, len, cap, f, hg.cell c0 (by simp), hg.cell c1 (by simp), ?_, short, room, ?_⟩
  · exact (World.frozen?_of_block (hg.block b hb (by simp))).trans fr
  · rcases row with h | ⟨b', off, rfl, hb', hc, hf⟩
    · exact .inl h
    · exact .inr ⟨b', off, rfl, hb', fun j hj => hg.cell (hc j hj) (by simp), hf⟩
theorem RdB.grown {w w' : World} {b K : Nat} (h : RdB w b K) (hg : w.grownBy w' none) : RdB w' b K := by
  obtain ⟨k, h1, h2⟩ := h
  exact ⟨k, h1, h2.grown hg⟩
theorem IsRow.below {k : IntKind} {w w' : World} {a : Option Addr} {len cap : Nat} {zs : List Int} (h : IsRow k w a len cap zs) (hb : Below w.heap.size w w') : IsRow k w' a len cap zs := by
  rcases h with h | ⟨x, h1, h2, h3, h4, h5, h6⟩
  · exact .inl h
  · refine .inr ⟨x, h1, h2, h3, h4, fun i hi => ?_, h6⟩
    rw [hb.cell (World.block_lt_of_cell? w _ (h5 i hi))]
    exact h5 i hi
/-- What l15Open leaves: a new reader that has drawn nothing. -/
def Opened (w : World) (e : Ending) (w' : World) : Prop :=
  e = .returned (.pointer (some ⟨w.heap.size, 0, none⟩)) ∧ RdB w' w.heap.size 0 ∧ Below w.heap.size w w' ∧ w'.heap.size = w.heap.size + 1
theorem Opened.mk {w : World} {a : Option Addr} {len cap n : Nat} {zs : List Int} {e : Ending} {T : TypeId} (h : IsRow .u8 w a len cap zs) (hn : n ≤ len) (hn' : n ≤ 2000) (he : e = .returned (.pointer (some ⟨w.heap.size, 0, none⟩))) :
    Opened w e (w.alloc (.cells #[.slice a n cap, .int .i64 0] T)) := by
  refine ⟨he, ⟨0, Nat.le_refl _, a, n, cap, fun j => zs.getD j 0, ?_, ?_, ?_, hn', ?_, ?_⟩, (Below.refl _ _).alloc (Nat.le_refl _) _, by simp⟩
  · simp
  · simp
  · simp
  · rcases h with ⟨rfl, rfl, rfl, rfl⟩ | ⟨x, rfl, h2, h3, h4, h5, h6⟩ <;> omega
  · by_cases h0 : n = 0
    · exact .inl h0
    · rcases h with ⟨rfl, rfl, rfl, rfl⟩ | ⟨x, rfl, h2, h3, h4, h5, h6⟩
      · omega
      · obtain ⟨b, off, rfl, hc⟩ := ints_at h5 (by omega)
        have hb : b < w.heap.size := World.block_lt_of_cell? w _ (hc 0 (by omega))
        refine .inr ⟨b, off, rfl, hb, fun j hj => ?_, fun j => ?_⟩
        · rw [World.cell?_alloc_lt w _ _ (by exact hb)]
          exact hc j (by omega)
        · by_cases hj : j < zs.length
          · have hm : zs.getD j 0 ∈ zs := by simp [hj]
            have := bounds_u8 (h6 _ hm)
            omega
          · simp [hj]
theorem l15Open_any (w : World) (a : Option Addr) (len cap : Nat) (zs : List Int) (h : IsRow .u8 w a len cap zs) :
    Calls Tryz.prog 16 #[.slice a len cap] w (Opened w) := by
  have HD := fun n hn hn' T e he => Opened.mk (n := n) (T := T) (e := e) h hn hn' he
  have hl : len ≤ cap ∧ cap ≤ maxLen := by
    rcases h with ⟨rfl, rfl, rfl, rfl⟩ | ⟨x, rfl, h2, h3, h4, h5, h6⟩
    · simp
    · exact ⟨h2, h3⟩
  unfold maxLen at hl
  obtain ⟨l0, l1⟩ := hl
  have HDD := Lib.hid HD; clear HD h
  by_cases h0 : len ≤ 2000
  · have h0' : (len : Int) ≤ 2000 := by omega
    go_enter Tryz.func16, Tryz.ntmps16
    go_wp2
    go_ret
    exact HDD.out len (Nat.le_refl _) h0 _ _ rfl
  · have h0' : (2000 : Int) < (len : Int) := by omega
    go_enter Tryz.func16, Tryz.ntmps16
    go_wp2
    go_ret
    exact HDD.out 2000 (by omega) (Nat.le_refl _) _ _ rfl
/-- What a draw of one of n numbers leaves. -/
def NumPost (b K n : Nat) (f : Nat → Int) (w : World) (e : Ending) (w' : World) : Prop :=
  ∃ j, j < n ∧ e = .returned (.int .i64 (f j)) ∧ RdB w' b (K + 1) ∧ w.grownBy w' (some b)
theorem num_any (w : World) (b K lb n : Nat) (f : Nat → Int) (h : RdB w b K) (hk : K < 1099511627776) (hne : lb ≠ b) (h0 : 1 ≤ n) (h1 : n ≤ 1000)
    (hx : ∀ j, j < n → w.cell? ⟨lb, j, none⟩ = some (.int .i64 (f j))) :
    Calls Tryz.prog 20 #[.pointer (some ⟨b, 0, none⟩), .slice (some ⟨lb, 0, none⟩) n n] w (NumPost b K n f w) := by
  have HX := Lib.hid hx; clear hx
  have H := Lib.hid h; clear h
  have HNE := Lib.hid hne; clear hne
  go_enter Tryz.func20, Tryz.ntmps20
  go_wp2_with fail
  refine (pickB _ b K _ H.out hk (by omega) (by omega)).mono ?_; rintro e w1 ⟨v, rfl, v0, v1, hr, hg⟩
  obtain ⟨j, rfl⟩ := Int.eq_ofNat_of_zero_le v0
  have hj : j < n := by omega
  have hc := hg.cell (HX.out j hj) (by intro h; injection h with h; exact HNE.out h)
  have HP : Hid (NumPost b K n f w (.returned (.int .i64 (f j))) w1) := ⟨j, hj, rfl, hr, hg⟩
  clear hr hg HX H HNE
  generalize f j = v at *
  go_wp2
  go_ret
  exact HP.out
theorem grown_alloc (w : World) (o : Obj) : w.grownBy (w.alloc o) none :=
  ⟨rfl, rfl, rfl, by simp, fun i hi _ => Below.heap_alloc w o i hi⟩
/-- What a draw of an element of a list leaves. -/
def ElemPost (b K : Nat) (xs : List Int) (w : World) (e : Ending) (w' : World) : Prop :=
  ∃ v : Int, v ∈ xs ∧ e = .returned (.int .i64 v) ∧ RdB w' b (K + 1) ∧ w.grownBy w' (some b)
theorem num_list (w : World) (b K : Nat) (xs : List Int) (T : TypeId) (h : RdB w b K) (hk : K < 1099511627776) (h0 : 1 ≤ xs.length) (h1 : xs.length ≤ 1000) :
    Calls Tryz.prog 20 #[.pointer (some ⟨b, 0, none⟩), .slice (some ⟨w.heap.size, 0, none⟩) xs.length xs.length] (w.alloc (.cells (xs.map (Value.int .i64)).toArray T)) (ElemPost b K xs w) := by
  refine (num_any _ b K w.heap.size xs.length (fun j => xs.getD j 0) (h.grown (grown_alloc w _)) hk (by have := h.block; omega) h0 h1 ?_).mono ?_
  · intro j hj
    rw [World.cell?_alloc_new]
    simp [hj]
  · rintro e w' ⟨j, hj, he, hr, hg⟩
    exact ⟨xs.getD j 0, by simp [hj], he, hr, ((grown_alloc w _).but _).trans hg⟩
end Go.Proofs.YtofmagiahmmmgaaGreatDoor
namespace Go.Proofs.YtofmagiahmmmgaaGreatDoor
open Go.RowKit
set_option linter.unusedVariables false
/-- A text that is drawn: at most n bytes; at most K numbers have been drawn then. -/
def TxtP (b K n : Nat) (w : World) (e : Ending) (w' : World) : Prop := ∃ t : ByteArray, t.size ≤ n ∧ e = .returned (.string t) ∧ RdB w' b K ∧ w.grownBy w' (some b)
theorem of_list (w : World) (b K m : Nat) (xs : List ByteArray) (T : TypeId) (h : RdB w b K) (hk : K < 1099511627776) (h0 : 1 ≤ xs.length) (h1 : xs.length ≤ 1000) (hm : ∀ x ∈ xs, x.size ≤ m) :
    Calls Tryz.prog 40 #[.pointer (some ⟨b, 0, none⟩), .slice (some ⟨w.heap.size, 0, none⟩) xs.length xs.length] (w.alloc (.cells (xs.map Value.string).toArray T)) (TxtP b (K + 1) m w) := by
  have H := Lib.hid (h.grown (grown_alloc w (.cells (xs.map Value.string).toArray T)))
  have HB := Lib.hid h.block
  have HX : Hid (∀ j, j < xs.length → (w.alloc (.cells (xs.map Value.string).toArray T)).cell? ⟨w.heap.size, j, none⟩ = some (.string (xs.getD j ByteArray.empty))) := by
    intro j hj
    rw [World.cell?_alloc_new]
    simp [hj]
  have HG := Lib.hid (grown_alloc w (.cells (xs.map Value.string).toArray T))
  have HM : Hid (∀ j, j < xs.length → (xs.getD j ByteArray.empty).size ≤ m) := fun j hj => hm _ (by simp [hj])
  obtain ⟨W, hW⟩ : ∃ W, w.alloc (.cells (xs.map Value.string).toArray T) = W := ⟨_, rfl⟩
  rw [hW] at H HX HG ⊢
  obtain ⟨B, hB⟩ : ∃ B, w.heap.size = B := ⟨_, rfl⟩
  rw [hB] at HX HB ⊢
  have hne : B ≠ b := by have := HB.out; omega
  have HNE := Lib.hid hne
  have hlI : (xs.length : Int) ≤ 1000 := by omega
  clear hW hB h hm hne
  go_enter Tryz.func40, Tryz.ntmps40
  go_wp2_with fail
  refine (pickB _ b K _ H.out hk (by omega) (by omega)).mono ?_; rintro e w1 ⟨v, rfl, v0, v1, hr, hg⟩
  obtain ⟨j, rfl⟩ := Int.eq_ofNat_of_zero_le v0
  have hj : j < xs.length := by omega
  have hc := hg.cell (HX.out j hj) (by intro h; injection h with h; exact HNE.out h)
  have HP : Hid (TxtP b (K + 1) m w (.returned (.string (xs.getD j ByteArray.empty))) w1) := ⟨_, HM.out j hj, rfl, hr, (HG.out.but _).trans hg⟩
  clear hr hg HX H HM HG
  generalize xs.getD j ByteArray.empty = t at *
  go_wp2
  go_ret
  exact HP.out
end Go.Proofs.YtofmagiahmmmgaaGreatDoor
