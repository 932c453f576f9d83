/- The reader is opened, draws an element of a list of numbers; lengths of orders and the arguments of the order laws are drawn, each in its range. Conditions: the bytes are readable; at most so many numbers have been drawn. -/
import Derived.Test.YtagnikcnakdehaaDoorRd
import Derived.Maps.AppendAt
import Derived.Maps.RangeWalk
import Derived.Maps.Range
namespace Go.Proofs.YtagnikcnakdehaaDoor
open Go.RowKit

/-- A reader that has drawn at most K numbers. -/
def RdB (w : World) (b K : Nat) : Prop := ∃ k, k ≤ K ∧ RdAt w b k
theorem RdB.mono {w : World} {b K K' : Nat} (h : RdB w b K) (hk : K ≤ K') : RdB w b K' := by
  obtain ⟨k, h1, h2⟩ := h
  exact ⟨k, by omega, h2⟩
theorem RdB.block {w : World} {b K : Nat} (h : RdB w b K) : b < w.heap.size := by
  obtain ⟨k, _, h2⟩ := h
  exact h2.block
def DrewB (b K : Nat) (n : Int) (w : World) (e : Ending) (w' : World) : Prop :=
  ∃ v : Int, e = .returned (.int .i64 v) ∧ 0 ≤ v ∧ v < n ∧ RdB w' b (K + 1) ∧ w.grownBy w' (some b)
theorem pickB (w : World) (b K : Nat) (n : Int) (h : RdB w b K) (hk : K < 1099511627776) (n0 : 1 ≤ n) (n1 : n ≤ 4611686018427387904) :
    Calls Tryd.prog 75 #[.pointer (some ⟨b, 0, none⟩), .int .i64 n] w (DrewB b K n w) := by
  obtain ⟨k, h1, h2⟩ := h
  refine (pick_any w b k n h2 (by omega) n0 n1).mono fun e w' ⟨v, he, v0, v1, hr, hg⟩ => ⟨v, he, v0, v1, ⟨k + 1, by omega, hr⟩, hg⟩

theorem RdAt.grown {w w' : World} {b k : Nat} (h : RdAt w b k) (hg : w.grownBy w' none) : RdAt w' b k := by
  have hb := h.block
  obtain ⟨a, len, cap, f, c0, c1, fr, short, room, row⟩ := h
  refine ⟨a, len, cap, f, hg.cell c0 (by simp), hg.cell c1 (by simp), ?_, short, room, ?_⟩
  · exact (World.frozen?_of_block (hg.block b hb (by simp))).trans fr
  · rcases row with h | ⟨b', off, rfl, hb', hc, hf⟩
    · exact .inl h
    · exact .inr ⟨b', off, rfl, hb', fun j hj => hg.cell (hc j hj) (by simp), hf⟩
theorem RdB.grown {w w' : World} {b K : Nat} (h : RdB w b K) (hg : w.grownBy w' none) : RdB w' b K := by
  obtain ⟨k, h1, h2⟩ := h
  exact ⟨k, h1, h2.grown hg⟩

theorem IsRow.below {k : IntKind} {w w' : World} {a : Option Addr} {len cap : Nat} {zs : List Int} (h : IsRow k w a len cap zs) (hb : Below w.heap.size w w') : IsRow k w' a len cap zs := by
  rcases h with h | ⟨x, h1, h2, h3, h4, h5, h6⟩
  · exact .inl h
  · refine .inr ⟨x, h1, h2, h3, h4, fun i hi => ?_, h6⟩
    rw [hb.cell (World.block_lt_of_cell? w _ (h5 i hi))]
    exact h5 i hi

/-- What l15Open leaves: a new reader that has drawn nothing. -/
def Opened (w : World) (e : Ending) (w' : World) : Prop :=
  e = .returned (.pointer (some ⟨w.heap.size, 0, none⟩)) ∧ RdB w' w.heap.size 0 ∧ Below w.heap.size w w' ∧ w'.heap.size = w.heap.size + 1

theorem Opened.mk {w : World} {a : Option Addr} {len cap n : Nat} {zs : List Int} {e : Ending} {T : TypeId} (h : IsRow .u8 w a len cap zs) (hn : n ≤ len) (hn' : n ≤ 2000) (he : e = .returned (.pointer (some ⟨w.heap.size, 0, none⟩))) :
    Opened w e (w.alloc (.cells #[.slice a n cap, .int .i64 0] T)) := by
  refine ⟨he, ⟨0, Nat.le_refl _, a, n, cap, fun j => zs.getD j 0, ?_, ?_, ?_, hn', ?_, ?_⟩, (Below.refl _ _).alloc (Nat.le_refl _) _, by simp⟩
  · simp
  · simp
  · simp
  · rcases h with ⟨rfl, rfl, rfl, rfl⟩ | ⟨x, rfl, h2, h3, h4, h5, h6⟩ <;> omega
  · by_cases h0 : n = 0
    · exact .inl h0
    · rcases h with ⟨rfl, rfl, rfl, rfl⟩ | ⟨x, rfl, h2, h3, h4, h5, h6⟩
      · omega
      · obtain ⟨b, off, rfl, hc⟩ := ints_at h5 (by omega)
        have hb : b < w.heap.size := World.block_lt_of_cell? w _ (hc 0 (by omega))
        refine .inr ⟨b, off, rfl, hb, fun j hj => ?_, fun j => ?_⟩
        · rw [World.cell?_alloc_lt w _ _ (by exact hb)]
          exact hc j (by omega)
        · by_cases hj : j < zs.length
          · have hm : zs.getD j 0 ∈ zs := by simp [hj]
            have := bounds_u8 (h6 _ hm)
            omega
          · simp [hj]

theorem l15Open_any (w : World) (a : Option Addr) (len cap : Nat) (zs : List Int) (h : IsRow .u8 w a len cap zs) :
    Calls Tryd.prog 73 #[.slice a len cap] w (Opened w) := by
  have HD := fun n hn hn' T e he => Opened.mk (n := n) (T := T) (e := e) h hn hn' he
  have hl : len ≤ cap ∧ cap ≤ maxLen := by
    rcases h with ⟨rfl, rfl, rfl, rfl⟩ | ⟨x, rfl, h2, h3, h4, h5, h6⟩
    · simp
    · exact ⟨h2, h3⟩
  unfold maxLen at hl
  obtain ⟨l0, l1⟩ := hl
  have HDD := Lib.hid HD; clear HD h
  by_cases h0 : len ≤ 2000
  · have h0' : (len : Int) ≤ 2000 := by omega
    go_enter Tryd.func73, Tryd.ntmps73
    go_wp2
    go_ret
    exact HDD.out len (Nat.le_refl _) h0 _ _ rfl
  · have h0' : (2000 : Int) < (len : Int) := by omega
    go_enter Tryd.func73, Tryd.ntmps73
    go_wp2
    go_ret
    exact HDD.out 2000 (by omega) (Nat.le_refl _) _ _ rfl

/-- What a draw of one of n numbers leaves. -/
def NumPost (b K n : Nat) (f : Nat → Int) (w : World) (e : Ending) (w' : World) : Prop :=
  ∃ j, j < n ∧ e = .returned (.int .i64 (f j)) ∧ RdB w' b (K + 1) ∧ w.grownBy w' (some b)

theorem num_any (w : World) (b K lb n : Nat) (f : Nat → Int) (h : RdB w b K) (hk : K < 1099511627776) (hne : lb ≠ b) (h0 : 1 ≤ n) (h1 : n ≤ 1000)
    (hx : ∀ j, j < n → w.cell? ⟨lb, j, none⟩ = some (.int .i64 (f j))) :
    Calls Tryd.prog 77 #[.pointer (some ⟨b, 0, none⟩), .slice (some ⟨lb, 0, none⟩) n n] w (NumPost b K n f w) := by
  have HX := Lib.hid hx; clear hx
  have H := Lib.hid h; clear h
  have HNE := Lib.hid hne; clear hne
  go_enter Tryd.func77, Tryd.ntmps77
  go_wp2_with fail
  refine (pickB _ b K _ H.out hk (by omega) (by omega)).mono ?_; rintro e w1 ⟨v, rfl, v0, v1, hr, hg⟩
  obtain ⟨j, rfl⟩ := Int.eq_ofNat_of_zero_le v0
  have hj : j < n := by omega
  have hc := hg.cell (HX.out j hj) (by intro h; injection h with h; exact HNE.out h)
  have HP : Hid (NumPost b K n f w (.returned (.int .i64 (f j))) w1) := ⟨j, hj, rfl, hr, hg⟩
  clear hr hg HX H HNE
  generalize f j = v at *
  go_wp2
  go_ret
  exact HP.out

theorem grown_alloc (w : World) (o : Obj) : w.grownBy (w.alloc o) none :=
  ⟨rfl, rfl, rfl, by simp, fun i hi _ => Below.heap_alloc w o i hi⟩

/-- What a draw of an element of a list leaves. -/
def ElemPost (b K : Nat) (xs : List Int) (w : World) (e : Ending) (w' : World) : Prop :=
  ∃ v : Int, v ∈ xs ∧ e = .returned (.int .i64 v) ∧ RdB w' b (K + 1) ∧ w.grownBy w' (some b)
theorem num_list (w : World) (b K : Nat) (xs : List Int) (T : TypeId) (h : RdB w b K) (hk : K < 1099511627776) (h0 : 1 ≤ xs.length) (h1 : xs.length ≤ 1000) :
    Calls Tryd.prog 77 #[.pointer (some ⟨b, 0, none⟩), .slice (some ⟨w.heap.size, 0, none⟩) xs.length xs.length] (w.alloc (.cells (xs.map (Value.int .i64)).toArray T)) (ElemPost b K xs w) := by
  refine (num_any _ b K w.heap.size xs.length (fun j => xs.getD j 0) (h.grown (grown_alloc w _)) hk (by have := h.block; omega) h0 h1 ?_).mono ?_
  · intro j hj
    rw [World.cell?_alloc_new]
    simp [hj]
  · rintro e w' ⟨j, hj, he, hr, hg⟩
    exact ⟨xs.getD j 0, by simp [hj], he, hr, ((grown_alloc w _).but _).trans hg⟩

/-- Lengths that are drawn. -/
def LenPost (b K : Nat) (w : World) (e : Ending) (w' : World) : Prop :=
  ∃ n : Int, e = .returned (.int .i64 n) ∧ -1 ≤ n ∧ n ≤ 1000001 ∧ RdB w' b (K + 2) ∧ w.grownBy w' (some b)

theorem l13Length_any (w : World) (b K : Nat) (h : RdB w b K) (hk : K < 1000000000000) :
    Calls Tryd.prog 151 #[.pointer (some ⟨b, 0, none⟩)] w (LenPost b K w) := by
  have H := Lib.hid h; clear h
  go_enter Tryd.func151, Tryd.ntmps151
  go_wp2_with fail
  refine (pickB _ b K _ H.out (by omega) (by omega) (by omega)).mono ?_; rintro e w1 ⟨v, rfl, v0, v1, hr, hg⟩
  have HR := Lib.hid hr
  have HG := Lib.hid hg
  clear hr hg
  by_cases hv : v = 0
  · subst hv
    go_wp2_with fail
    refine (num_list w1 b (K + 1) [-1, 1000000, 1000001, 1023, 1022, 0] _ HR.out (by omega) (by decide) (by decide)).mono ?_; rintro e w2 ⟨u, hu, rfl, hr2, hg2⟩
    have hb : -1 ≤ u ∧ u ≤ 1000001 := by
      simp at hu
      omega
    have HP : Hid (LenPost b K w (.returned (.int .i64 u)) w2) := ⟨u, rfl, hb.1, hb.2, hr2, HG.out.trans hg2⟩
    clear hr2 hg2 hu hb
    go_wp2
    go_ret
    exact HP.out
  · have hv' : (v == 0) = false := by simpa using hv
    clear hv
    go_wp2_with fail
    refine (pickB _ b (K + 1) _ HR.out (by omega) (by omega) (by omega)).mono ?_; rintro e w2 ⟨u, rfl, u0, u1, hr2, hg2⟩
    have HP : Hid (LenPost b K w (.returned (.int .i64 u)) w2) := ⟨u, rfl, by omega, by omega, hr2, HG.out.trans hg2⟩
    clear hr2 hg2
    go_wp2
    go_ret
    exact HP.out
end Go.Proofs.YtagnikcnakdehaaDoor
