/- The reference's source of numbers: what is known of a reader in memory, and that a number that is drawn lies in its range, whatever the bytes are. Conditions: the reader is well formed and has drawn fewer than 2 to the power of 40 numbers. -/
import Derived.Test.YtagnikcnakdehaaDoorBase
import Derived.Deep.QuietTactic
import Derived.BigQuiet
import Derived.OpenShut
import Derived.Laws.BitsAllLaws
import Derived.Laws.BitsLemmas
import Derived.Deep.Draws
import Derived.OwnWalk
namespace Go.Proofs.YtagnikcnakdehaaDoor
open Go.RowKit

/-- The reader in block b has drawn k numbers; its bytes are readable and lie in an older block. -/
structure Rd (w : World) (b k : Nat) (a : Option Addr) (len cap : Nat) (f : Nat → Int) : Prop where
  c0 : w.cell? ⟨b, 0, none⟩ = some (.slice a len cap)
  c1 : w.cell? ⟨b, 1, none⟩ = some (.int .i64 (k : Int))
  fr : w.frozen? ⟨b, 1, none⟩ = false
  short : len ≤ 2000
  room : len ≤ cap
  row : len = 0 ∨ ∃ b' off, a = some ⟨b', off, none⟩ ∧ b' < b ∧ (∀ j, j < len → w.cell? ⟨b', off + j, none⟩ = some (.int .u8 (f j))) ∧ ∀ j, 0 ≤ f j ∧ f j ≤ 255

def RdAt (w : World) (b k : Nat) : Prop := ∃ a len cap f, Rd w b k a len cap f

/-- What a draw of a number below n leaves. -/
def Drew (b k : Nat) (n : Int) (w : World) (e : Ending) (w' : World) : Prop :=
  ∃ v : Int, e = .returned (.int .i64 v) ∧ 0 ≤ v ∧ v < n ∧ RdAt w' b (k + 1) ∧ w.grownBy w' (some b)

theorem RdAt.block {w : World} {b k : Nat} (h : RdAt w b k) : b < w.heap.size := by
  obtain ⟨a, len, cap, f, c0, _⟩ := h
  exact World.block_lt_of_cell? w ⟨b, 0, none⟩ c0

theorem RdAt.step {w : World} {b k : Nat} (h : RdAt w b k) (m : Nat) : RdAt ((w.setCell ⟨b, 1, none⟩ (.int .i64 ((k : Int) + 1))).drewN m) b (k + 1) := by
  obtain ⟨a, len, cap, f, c0, c1, fr, short, room, row⟩ := h
  refine ⟨a, len, cap, f, ?_, ?_, ?_, short, room, ?_⟩
  · rw [World.cell?_drewN, World.cell?_setCell_other _ _ _ _ (by simp)]; exact c0
  · rw [World.cell?_drewN, World.cell?_setCell_same _ _ _ c1]; rfl
  · rw [World.frozen?_drewN, World.frozen?_setCell]; exact fr
  · rcases row with h | ⟨b', off, rfl, hb, hc, hf⟩
    · exact .inl h
    · refine .inr ⟨b', off, rfl, hb, fun j hj => ?_, hf⟩
      rw [World.cell?_drewN, World.cell?_setCell_other _ _ _ _ (by intro h; injection h; omega)]
      exact hc j hj

theorem grown_step (w : World) (b : Nat) (u : Value) (m : Nat) : w.grownBy ((w.setCell ⟨b, 1, none⟩ u).drewN m) (some b) :=
  ⟨rfl, rfl, rfl, by simp [World.setCell, World.drewN], fun i _ hne => Below.heap_setCell w ⟨b, 1, none⟩ u i (by rintro rfl; exact hne rfl)⟩

theorem Drew.mk {w : World} {b k : Nat} {n : Int} (v : Int) (h : RdAt w b k) (m : Nat) (h0 : 0 ≤ v) (h1 : v < n) {e : Ending} (he : e = .returned (.int .i64 v)) :
    Drew b k n w e ((w.setCell ⟨b, 1, none⟩ (.int .i64 ((k : Int) + 1))).drewN m) :=
  ⟨v, he, h0, h1, h.step m, grown_step _ _ _ _⟩

theorem ofInt_i64 (a : Nat) (ha : a < 9223372036854775808) : (BitVec.ofInt 64 (a : Int)).toNat = a := by
  rw [BitVec.ofInt_natCast, BitVec.toNat_ofNat]; exact Nat.mod_eq_of_lt (by omega)
theorem i64_xor_nat (a b : Nat) (ha : a < 9223372036854775808) (hb : b < 9223372036854775808) : bits .xor .i64 (a : Int) (b : Int) = ((a ^^^ b : Nat) : Int) := by
  have hx : a ^^^ b < 2 ^ 63 := Nat.xor_lt_two_pow (by omega) (by omega)
  show IntKind.i64.wrap ((BitVec.ofInt 64 (a : Int) ^^^ BitVec.ofInt 64 (b : Int)).toNat : Int) = _
  rw [BitVec.toNat_xor, ofInt_i64 a ha, ofInt_i64 b hb, IntKind.wrap_i64]
  omega
theorem wrap_in {x : Int} (h0 : 0 ≤ x) (h1 : x < 9223372036854775808) : wrap64 x = x := by
  unfold wrap64; omega
theorem mix_bounds (x y : Int) (k len : Nat) (n : Int) (x0 : 0 ≤ x) (x1 : x ≤ 255) (y0 : 0 ≤ y) (y1 : y ≤ 255) (hk : k < 1099511627776) (hl : (0 : Int) < (len : Int)) (n0 : 1 ≤ n) :
    0 ≤ (bits BinOp.xor IntKind.i64 (wrap64 (x * 131 + y * 1117 + (k : Int) * 29 + wrap64 (wrap64 ((k : Int) / (len : Int)) * 53)))
          (wrap64 ((wrap64 (x * 131 + y * 1117 + (k : Int) * 29 + wrap64 (wrap64 ((k : Int) / (len : Int)) * 53))).tdiv 64))).tmod n ∧
    (bits BinOp.xor IntKind.i64 (wrap64 (x * 131 + y * 1117 + (k : Int) * 29 + wrap64 (wrap64 ((k : Int) / (len : Int)) * 53)))
          (wrap64 ((wrap64 (x * 131 + y * 1117 + (k : Int) * 29 + wrap64 (wrap64 ((k : Int) / (len : Int)) * 53))).tdiv 64))).tmod n < n := by
  have d0 : 0 ≤ (k : Int) / (len : Int) := Int.ediv_nonneg (by omega) (by omega)
  have d1 : (k : Int) / (len : Int) ≤ k := Int.ediv_le_self _ (by omega)
  generalize (k : Int) / (len : Int) = d at *
  have e1 : wrap64 d = d := wrap_in d0 (by omega)
  have e2 : wrap64 (d * 53) = d * 53 := wrap_in (by omega) (by omega)
  rw [e1, e2]
  obtain ⟨s, hs⟩ : ∃ s : Nat, x * 131 + y * 1117 + (k : Int) * 29 + d * 53 = s := ⟨(x * 131 + y * 1117 + (k : Int) * 29 + d * 53).toNat, by omega⟩
  have hs1 : s < 9223372036854775808 := by omega
  rw [hs, wrap_in (by omega) (by omega)]
  have e3 : ((s : Int)).tdiv 64 = ((s / 64 : Nat) : Int) := rfl
  rw [e3, wrap_in (by omega) (by omega), i64_xor_nat s (s / 64) hs1 (by omega)]
  exact ⟨Int.tmod_nonneg _ (by omega), Int.tmod_lt_of_pos _ (by omega)⟩

theorem pick_any (w : World) (b k : Nat) (n : Int) (h : RdAt w b k) (hk : k < 1099511627776) (n0 : 1 ≤ n) (n1 : n ≤ 4611686018427387904) :
    Calls Tryd.prog 75 #[.pointer (some ⟨b, 0, none⟩), .int .i64 n] w (Drew b k n w) := by
  have HD := fun v => Drew.mk (n := n) v h
  obtain ⟨a, len, cap, f, c0, c1, fr, short, room, row⟩ := h
  have HDD := Lib.hid HD; clear HD
  by_cases h0 : len = 0
  · subst h0
    clear row
    go_enter Tryd.func75, Tryd.ntmps75
    go_wp2
    go_ret
    exact HDD.out 0 0 (by omega) (by omega) rfl
  · obtain ⟨b', off, rfl, hb, hc, hf⟩ := row.resolve_left h0
    clear row
    have hl0 : (0 : Int) < (len : Int) := by omega
    have hl1 : ((len : Int) == 0) = false := by simp; omega
    have hn1 : ¬ n < 1 := by omega
    by_cases hlt : k < len
    · have hck := hc k hlt
      obtain ⟨hf0, hf1⟩ := hf k
      have hlt' : (k : Int) < (len : Int) := by omega
      generalize f k = v at *
      clear hc hf
      go_enter Tryd.func75, Tryd.ntmps75
      go_wp2
      go_ret
      refine HDD.out (v % n) 0 (Int.emod_nonneg _ (by omega)) (Int.emod_lt_of_pos _ (by omega)) rfl
    · have hlt' : (len : Int) ≤ (k : Int) := by omega
      have i0 := hc (k % len) (Nat.mod_lt _ (by omega))
      have i1 := hc ((k * 7 + 3) % len) (Nat.mod_lt _ (by omega))
      obtain ⟨x0, x1⟩ := hf (k % len)
      obtain ⟨y0, y1⟩ := hf ((k * 7 + 3) % len)
      generalize f (k % len) = x at *
      generalize f ((k * 7 + 3) % len) = y at *
      have p0 : ((k : Int) % (len : Int)) = ((k % len : Nat) : Int) := by simp
      have p1 : (((k : Int) * 7 + 3) % (len : Int)) = (((k * 7 + 3) % len : Nat) : Int) := by simp
      have q0 : k % len < len := Nat.mod_lt _ (by omega)
      have q1 : (k * 7 + 3) % len < len := Nat.mod_lt _ (by omega)
      generalize k % len = m0 at *
      generalize (k * 7 + 3) % len = m1 at *
      clear hc hf hlt
      go_enter Tryd.func75, Tryd.ntmps75
      go_wp2
      go_quiet (fail)
      go_wp2
      go_ret
      obtain ⟨r0, r1⟩ := mix_bounds x y k len n x0 x1 y0 y1 hk hl0 n0
      exact HDD.out _ nq r0 r1 rfl
end Go.Proofs.YtagnikcnakdehaaDoor
