/- Contracts of the program's functions and what they compute: part 14. Conditions: those that each theorem states. -/
import Derived.Test.YtnhlhjehocngcaaGreatDoorP50n4
import Derived.Test.YtnhlhjehocngcaaGreatDoorP50n3
import Derived.Test.YtnhlhjehocngcaaGreatDoorP50n8
import Derived.Test.YtnhlhjehocngcaaGreatDoorP50n10
import Derived.Test.YtnhlhjehocngcaaGreatDoorP50n11
import Derived.Test.YtnhlhjehocngcaaGreatDoorP50n13
import Derived.Test.YtnhlhjehocngcaaGreatDoorP50n1
import Derived.OwnWalk
import Derived.Deep.AppendLies
namespace Go.Proofs.YtnhlhjehocngcaaGreatDoor
open Go.RowKit
set_option linter.unusedVariables false
set_option maxRecDepth 100000
/-- A list of numbers that a call has built. -/
def ListI (L : List Int) (w : World) (e : Ending) (w' : World) : Prop := ∃ v, e = .returned v ∧ OwnI w.heap.size w' v L ∧ Below w.heap.size w w'
end Go.Proofs.YtnhlhjehocngcaaGreatDoor

namespace Go.Proofs.YtnhlhjehocngcaaGreatDoor
open Go.RowKit
set_option linter.unusedVariables false
set_option maxRecDepth 100000
theorem OwnI.setI {B g n cap : Nat} {w : World} {L : List Int} (h : OwnI B w (.slice (some ⟨g, 0, none⟩) n cap) L) (hn : L.length = n) (j : Nat) (z : Int) : OwnI B (w.setCell ⟨g, j, none⟩ (.int .i64 z)) (.slice (some ⟨g, 0, none⟩) n cap) (L.set j z) := by
  have h1 := h.own
  rw [hn] at h1
  refine ⟨?_, by simp, by simpa [World.setCell] using h.low⟩
  rw [List.length_set, List.map_set, hn]
  exact (h1.stored j (.int .i64 z)).1
theorem OwnI.frozen {B g n cap : Nat} {w : World} {L : List Int} (h : OwnI B w (.slice (some ⟨g, 0, none⟩) n cap) L) (hn : L.length = n) (j : Nat) : w.frozen? ⟨g, j, none⟩ = false := by
  have h1 := h.own
  rw [hn] at h1
  exact h1.frozenAt j
/-- Two lists of the call's own. -/
structure Pr2 (w : World) (va vb : Value) (A B : List Int) (wr : World) : Prop where
  a : OwnI w.heap.size wr va A
  b : OwnI w.heap.size wr vb B
  ne : va.ownBlock ≠ vb.ownBlock
  old : Below w.heap.size w wr
theorem Pr2.swap {w wr : World} {va vb : Value} {A B : List Int} (h : Pr2 w va vb A B wr) : Pr2 w vb va B A wr := ⟨h.b, h.a, fun e => h.ne e.symm, h.old⟩
theorem PebS.low {B B' : Nat} {w : World} {p n m k : Nat} {S R S2 R2 : ByteArray} {F W : List Bool} (h : PebS B w p n S R m S2 R2 k F W) (hB : B' ≤ B) : PebS B' w p n S R m S2 R2 k F W := by
  obtain ⟨fv, wv, h1, h2, h3, h4, h5, h6, h7⟩ := h
  exact ⟨fv, wv, h1, h2, h3, h4, h5, fun j hj => Nat.le_trans hB (h6 j hj), fun j hj => Nat.le_trans hB (h7 j hj)⟩
end Go.Proofs.YtnhlhjehocngcaaGreatDoor

namespace Go.Proofs.YtnhlhjehocngcaaGreatDoor
open Go.RowKit
set_option linter.unusedVariables false
/-- The slice v of the world w holds the texts L; it was made since the world w0; of what w0 had nothing has turned. -/
structure Strs (w0 w : World) (v : Value) (L : List ByteArray) : Prop where
  own : w.ownsRow w0.heap.size 9 1 v L.length (L.map Value.string)
  ne : v ≠ .slice none 0 0
  old : Below w0.heap.size w0 w
theorem Strs.kept {w0 w w' : World} {v : Value} {L : List ByteArray} (h : Strs w0 w v L) (hb : Below w.heap.size w w') : Strs w0 w' v L := by
  refine ⟨h.own.kept (w' := w') (row := none) ⟨hb.os, hb.tape, hb.output, hb.size, fun i hi _ => hb.block i hi⟩ ?_, h.ne, h.old.trans (hb.mono h.old.size)⟩
  cases hv : v.ownBlock <;> simp
theorem Strs.alloc {w0 w : World} {v : Value} {L : List ByteArray} (h : Strs w0 w v L) (o : Obj) : Strs w0 (w.alloc o) v L :=
  h.kept ((Below.refl _ _).alloc (Nat.le_refl _) _)
theorem Strs.lit0 (w : World) : Strs w (w.alloc (.cells #[] 9)) (.slice (some ⟨w.heap.size, 0, none⟩) 0 0) [] :=
  ⟨World.ownsRow_made w #[] 0 (Nat.le_refl _) (by decide) rfl, by simp, (Below.refl _ _).alloc (Nat.le_refl _) _⟩
theorem Strs.cells {w0 w : World} {v : Value} {L : List ByteArray} (h : Strs w0 w v L) :
    ∃ g cap, v = .slice (some ⟨g, 0, none⟩) L.length cap ∧ w0.heap.size ≤ g ∧ g < w.heap.size ∧ L.length ≤ cap ∧ cap ≤ maxLen ∧ ∀ j (hj : j < L.length), w.cell? ⟨g, j, none⟩ = some (.string L[j]) := by
  have ho := h.own
  rcases ho.2 with ⟨h1, _⟩ | ⟨g, cap, cur, hv, hb, hg, hnc, hcm, hcs, htake⟩
  · exact absurd h1 h.ne
  · have hlt : g < w.heap.size := by
      rcases Nat.lt_or_ge g w.heap.size with h' | h'
      · exact h'
      · simp [Array.getElem?_eq_none h'] at hg
    refine ⟨g, cap, hv, hb, hlt, hnc, hcm, fun j hj => ?_⟩
    subst hv
    rw [ho.cellAt j (by omega)]
    simp [hj]
theorem strInfo9 : (Tryz.prog.info? 9).map (fun i => (i.zero, i.size, i.bytes)) = some (some (.string ByteArray.empty), 1, 16) := by kernel_rfl
theorem wpList_app1 {ops : Array Oper} {rest : List Oper} {o : Oper} {a : Act} {Q : Exit → Act → World → Prop} {w0 w : World} {v : Value} {L : List ByteArray}
    (hown : Strs w0 w v L) (hL : L.length ≤ 2000000) (hgd : o.guard = none) (s x : Operand)
    (ho : o.op = .call { callee := .builtin .append, args := #[s, x], argTypes := #[143, 143] }) (y : ByteArray)
    (B : Nat) (hB : w.heap.size = B) (hs : a.eval s = v) (hx : a.eval x = .slice (some ⟨B, 0, none⟩) 1 1)
    (h : ∀ v' w', Strs w0 w' v' (L ++ [y]) → wpList Tryz.prog ops Q rest (a.put o.dst v') w') :
    wpList Tryz.prog ops Q (o :: rest) a (w.alloc (.cells #[.string y] 9)) := by
  subst hB
  obtain ⟨i, hi, hz, h1, h2⟩ := info_parts strInfo9
  have hbase : w0.heap.size ≤ w.heap.size := hown.old.size
  refine wpList_append_own _ hgd s x 143 ho w0.heap.size 9 i (.string ByteArray.empty) 1 16 Tryz.underlying143 hi hz h1 h2 rfl (by decide) v L.length (L.map .string) hs (hown.own.alloc _) ⟨w.heap.size, 0, none⟩ 1 1 [.string y] hx rfl ?_ ?_ ?_ ?_ ?_ ?_
  · intro j u hj
    match j, hj with
    | 0, hj => simp at hj; subst hj; simp [Addr.add]
  · intro u hu
    simp at hu; subst hu; rfl
  · unfold maxLen; omega
  · omega
  · simp; omega
  · intro v' w' h2 h3 h4
    refine h v' w' ⟨?_, ?_, ?_⟩
    · simpa using h2
    · intro e
      exact hown.ne (h4.1 e).1
    · refine (hown.old.alloc hbase _).grown h3 (by simp; omega) fun k hk => ?_
      exact (hown.own.lt k hk).1
end Go.Proofs.YtnhlhjehocngcaaGreatDoor

namespace Go.Proofs.YtnhlhjehocngcaaGreatDoor
open Go.RowKit
set_option linter.unusedVariables false
set_option maxRecDepth 100000
theorem signed_any (s : ByteArray) (is : Bool) (w : World) (hs : s.size ≤ 1000000) : Calls Tryz.prog 118 #[.string s, .bool is] w fun e w' => e = .returned (.string (sgB s is)) ∧ w' = w := by
  cases is
  · have hz : ¬ 9223372036854775807 < (⟨#[33]⟩ : ByteArray).size + s.size := by show ¬ _ < 1 + s.size; omega
    go_enter Tryz.func118, Tryz.ntmps118
    go_wp2_with fail
    go_ret
    exact ⟨rfl, rfl⟩
  · go_enter Tryz.func118, Tryz.ntmps118
    go_wp2_with fail
    go_ret
    exact ⟨rfl, rfl⟩
theorem short_any (s : ByteArray) (w : World) (hs : s.size ≤ 4000) : Calls Tryz.prog 121 #[.string s, .bool true] w fun e w' => e = .returned (.tuple #[.string s, .bool true]) ∧ w' = w := by
  have h1 : ¬ ((4000 : Int) < (s.size : Int)) := by omega
  have h1B : decide ((4000 : Int) < (s.size : Int)) = false := decide_eq_false h1
  go_enter Tryz.func121, Tryz.ntmps121
  go_wp2_with fail
  go_ret2
  exact ⟨rfl, rfl⟩
theorem tl_ne {x f : ByteArray} (h : x ≠ f) : (f.toList == x.toList) = false ∧ (x.toList == f.toList) = false := by
  have key : ∀ {x f : ByteArray}, f.toList = x.toList → f = x := fun {x f} e => by
    have h1 := (text_is f x.toList).1 e
    have h2 := (text_is x x.toList).1 rfl
    rw [h1, ← h2]
  rw [beq_eq_false_iff_ne, beq_eq_false_iff_ne]
  exact ⟨fun e => h (key e).symm, fun e => h (key e)⟩
theorem indexStr_any (v : Value) (L : List ByteArray) (f : ByteArray) (g cap : Nat) (w : World) (hcap : L.length ≤ cap) (hcm : cap ≤ maxLen) (hl : L.length ≤ 1000) (hc : ∀ j (hj : j < L.length), w.cell? ⟨g, j, none⟩ = some (.string L[j])) :
    Calls Tryz.prog 192 #[.slice (some ⟨g, 0, none⟩) L.length cap, .string f] w fun e w' => (∃ z : Int, e = .returned (.int .i64 z) ∧ decide (0 ≤ z) = hasB L f) ∧ w' = w := by
  unfold maxLen at hcm
  have HC := Lib.hid hc
  clear hc
  go_enter Tryz.func192, Tryz.ntmps192
  go_wp2_with fail
  go_loopw [8, 5] (fun i _ wr => (∃ k : Nat, k ≤ L.length ∧ i = .int .i64 (k : Int) ∧ Hid (∀ j (hj : j < L.length), j < k → L[j] ≠ f)) ∧ wr = w) (fun i _ _ => L.length - (intOf i).toNat)
  case atStart => exact ⟨⟨0, by omega, rfl, fun j _ hj => by omega⟩, rfl⟩
  case round =>
    obtain ⟨⟨k, hk, rfl, HK⟩, hw⟩ := hrel
    rw [hw]; clear hw
    by_cases hlt : k < L.length
    · have d1 := HC.out k hlt
      have hkI : (k : Int) < (L.length : Int) := by omega
      by_cases hx : L[k] = f
      · have HE : Hid (decide ((0 : Int) ≤ (k : Int)) = hasB L f) := by
          show _ = _
          unfold hasB
          rw [List.any_eq_true.2 ⟨L[k], List.getElem_mem hlt, by simpa using hx⟩]
          simp
        rw [hx] at d1
        clear hx
        go_wp2_with fail
        go_ret
        exact ⟨⟨_, rfl, HE.out⟩, rfl⟩
      · have HX := Lib.hid hx
        obtain ⟨hx1, hx2⟩ := tl_ne hx
        obtain ⟨x, hxe⟩ : ∃ x, L[k] = x := ⟨_, rfl⟩
        rw [hxe] at d1 hx hx1 hx2
        clear hxe
        go_wp2_with fail
        go_roundw
        case rel =>
          refine ⟨⟨k + 1, by omega, by go_num, fun j hj hjk => ?_⟩, trivial⟩
          by_cases e : j = k
          · subst e; exact HX.out
          · exact HK.out j hj (by omega)
        case measure => simp [intOf]; omega
    · have HE : Hid (decide ((0 : Int) ≤ -1) = hasB L f) := by
        show _ = _
        have : hasB L f = false := by
          unfold hasB
          rw [List.any_eq_false]
          intro x hx
          obtain ⟨j, hj, rfl⟩ := List.mem_iff_getElem.1 hx
          simpa using HK.out j hj (by omega)
        rw [this]; simp
      go_wp2_with fail
      go_ret
      exact ⟨⟨_, rfl, HE.out⟩, rfl⟩
theorem containsStr_any (L : List ByteArray) (f : ByteArray) (g cap : Nat) (w : World) (hcap : L.length ≤ cap) (hcm : cap ≤ maxLen) (hl : L.length ≤ 1000) (hc : ∀ j (hj : j < L.length), w.cell? ⟨g, j, none⟩ = some (.string L[j])) :
    Calls Tryz.prog 157 #[.slice (some ⟨g, 0, none⟩) L.length cap, .string f] w fun e w' => e = .returned (.bool (hasB L f)) ∧ w' = w := by
  have HI := Lib.hid (indexStr_any (.slice none 0 0) L f g cap w hcap hcm hl hc)
  clear hc
  generalize hasB L f = r at *
  go_enter Tryz.func157, Tryz.ntmps157
  go_wp2_with fail
  refine HI.out.mono ?_; rintro e w1 ⟨⟨z, rfl, hz⟩, hw⟩; rw [hw]; clear hw
  have HZ := Lib.hid hz; clear hz
  go_wp2_with fail
  go_ret
  exact ⟨ret_bool HZ.out, rfl⟩
/-- A list of texts that a call has built. -/
def ListS (L : List ByteArray) (w : World) (e : Ending) (w' : World) : Prop := ∃ v, e = .returned v ∧ Strs w w' v L
theorem withoutEqual_any (L : List ByteArray) (g cap : Nat) (w : World) (hcap : L.length ≤ cap) (hcm : cap ≤ maxLen) (hl : L.length ≤ 1000) (hg : g < w.heap.size) (hc : ∀ j (hj : j < L.length), w.cell? ⟨g, j, none⟩ = some (.string L[j])) :
    Calls Tryz.prog 123 #[.slice (some ⟨g, 0, none⟩) L.length cap] w (ListS (uniqL L) w) := by
  have HC := Lib.hid hc
  have hcm2 := hcm
  unfold maxLen at hcm2
  have HP0 : Hid (Strs w (w.alloc (.cells #[] 9)) (.slice (some ⟨w.heap.size, 0, none⟩) 0 0) (uniqL (L.take 0))) := Strs.lit0 w
  clear hc
  go_enter Tryz.func123, Tryz.ntmps123
  go_wp2_with fail
  go_loopw [9, 3, 5] (fun q o _ wr => ∃ k : Nat, k ≤ L.length ∧ q = .int .i64 (k : Int) ∧ Hid (Strs w wr o (uniqL (L.take k)))) (fun q _ _ _ => L.length - (intOf q).toNat)
  case atStart => exact ⟨0, by omega, rfl, HP0⟩
  case round =>
    clear HP0
    obtain ⟨k, hk, rfl, HP⟩ := hrel
    by_cases hlt : k < L.length
    · have hkI : (k : Int) < (L.length : Int) := by omega
      have d1 := (HP.out.old.cell (p := ⟨g, k, none⟩) hg).trans (HC.out k hlt)
      have HU : Hid (uniqL (L.take (k + 1)) = addU (uniqL (L.take k)) L[k]) := by show _ = _; rw [List.take_succ_eq_append_getElem hlt, uniqL_snoc]
      have HLN : Hid ((uniqL (L.take k)).length ≤ 1000) := by
        have := (uniqL_facts (L.take k)).2.1
        rw [List.length_take] at this
        show _ ≤ _
        omega
      generalize uniqL (L.take k) = U at *
      obtain ⟨x, hxe⟩ : ∃ x, L[k] = x := ⟨_, rfl⟩
      rw [hxe] at d1 HU
      clear hxe
      obtain ⟨ug, uc, rfl, m1, m2, m3, m4, m5⟩ := HP.out.cells
      have HCT := Lib.hid (containsStr_any U x ug uc wr m3 m4 HLN.out m5)
      have HUA : Hid (addU U x = if hasB U x = true then U else U ++ [x]) := rfl
      generalize hasB U x = r at *
      clear m5
      unfold maxLen at m4
      go_wp2_with fail
      refine HCT.out.mono ?_; rintro e w1 ⟨rfl, hw1⟩; rw [hw1]; clear hw1
      cases r
      · have HUB : Hid (uniqL (L.take (k + 1)) = U ++ [x]) := by show _ = _; rw [HU.out, HUA.out, if_neg (by decide)]
        have HL2 : Hid (U.length ≤ 2000000) := by have := HLN.out; show _ ≤ _; omega
        go_wp2_with (first | (at_builtin; refine wpList_app1 HP.out HL2.out rfl (.tmp 17) (.tmp 19) rfl x _ rfl rfl rfl ?_; intro v' w' ho; have HP9 := Lib.hid ho; clear ho) | fail)
        go_roundw
        case rel => exact ⟨k + 1, by omega, by go_num, by rw [HUB.out]; exact HP9⟩
        case measure => simp [intOf]; omega
      · have HUB : Hid (uniqL (L.take (k + 1)) = U) := by show _ = _; rw [HU.out, HUA.out, if_pos rfl]
        go_wp2_with fail
        go_roundw
        case rel => exact ⟨k + 1, by omega, by go_num, by rw [HUB.out]; exact HP⟩
        case measure => simp [intOf]; omega
    · obtain rfl : k = L.length := by omega
      have HF : Hid (ListS (uniqL L) w (.returned u3) wr) := ⟨u3, rfl, by have := HP.out; rw [List.take_length] at this; exact this⟩
      go_wp2_with fail
      go_ret
      exact HF.out
/-- All numbers of a slice are appended to one of the call's own. -/
theorem wpList_ownIAll {ops : Array Oper} {rest : List Oper} {o : Oper} {a : Act} {Q : Exit → Act → World → Prop} {B : Nat} {w : World} {v u : Value} {L M : List Int}
    (hown : OwnI B w v L) (hM : IntsAt w u M) (h0 : 0 < M.length) (hL : L.length + M.length ≤ 2000000) (hgd : o.guard = none) (s x : Operand)
    (ho : o.op = .call { callee := .builtin .append, args := #[s, x], argTypes := #[25, 25] })
    (hs : a.eval s = v) (hx : a.eval x = u)
    (h : ∀ v' w', OwnI B w' v' (L ++ M) → w.grownBy w' v.ownBlock → wpList Tryz.prog ops Q rest (a.put o.dst v') w') :
    wpList Tryz.prog ops Q (o :: rest) a w := by
  obtain ⟨i, hi, hz, h1, h2⟩ := info_parts natInfo3
  obtain ⟨aa, cap, rfl, m1, m2, m3⟩ := hM.view
  obtain ⟨g, oo, rfl, mg, mc⟩ := m3 h0
  refine wpList_append_own _ hgd s x 25 ho B 3 i (.int .i64 0) 1 8 Tryz.underlying25 hi hz h1 h2 rfl (by decide) v L.length _ hs hown.own ⟨g, oo, none⟩ M.length cap (M.map (Value.int .i64)) hx (by simp) ?_ ?_ ?_ ?_ hown.low ?_
  · intro j y hj
    have hj' : j < M.length := by
      have := (List.getElem?_eq_some_iff.1 hj).1
      simpa using this
    have e : (⟨g, oo, none⟩ : Addr).add j = ⟨g, oo + j, none⟩ := by
      unfold Addr.add
      split <;> simp_all
    rw [e, mc j hj']
    simpa [hj'] using hj
  · intro y hy
    obtain ⟨n, _, rfl⟩ := List.mem_map.1 hy
    rfl
  · unfold maxLen; omega
  · omega
  · intro v' w' h2 h3 h4
    refine h v' w' ⟨?_, ?_, ?_⟩ h3
    · simpa using h2
    · intro e
      exact hown.ne (h4.1 e).1
    · have := h3.size
      have := hown.low
      omega
theorem put_end {L : List Int} {i : Nat} {x : Int} {w w' : World} {v' : Value} (ho : OwnI w.heap.size w' v' ([] ++ L)) (hg : (w.alloc (.cells #[] 3)).grownBy w' (Value.slice (some ⟨w.heap.size, 0, none⟩) 0 0).ownBlock) (hi : i < L.length) :
    ∃ g q, v' = .slice (some ⟨g, 0, none⟩) L.length q ∧ w'.cell? ⟨g, i, none⟩ = some (.int .i64 (L.getD i 0)) ∧ w'.frozen? ⟨g, i, none⟩ = false ∧ Hid (ListI (L.set i x) w (.returned (.slice (some ⟨g, 0, none⟩) L.length q)) (w'.setCell ⟨g, i, none⟩ (.int .i64 x))) := by
  rw [List.nil_append] at ho
  obtain ⟨g, q, rfl, k1, k2, k3, k4, k5⟩ := ho.cells
  have hb : Below w.heap.size w w' := ((Below.refl _ _).alloc (Nat.le_refl _) _).grown hg (by simp) (fun k hk => by
    have : w.heap.size = k := by simpa [Value.ownBlock] using hk
    omega)
  refine ⟨g, q, rfl, k5 i hi, ho.frozen rfl i, _, rfl, ho.setI rfl i x, hb.setCell k1 _⟩
theorem put_any (L : List Int) (i : Nat) (x : Int) (v : Value) (w : World) (hv : IntsAt w v L) (hi : i < L.length) (hl : L.length ≤ 1000) :
    Calls Tryz.prog 120 #[v, .int .i64 (i : Int), .int .i64 x] w (ListI (L.set i x) w) := by
  have HV := Lib.hid (hv.below ((Below.refl w.heap.size w).alloc (Nat.le_refl _) (.cells #[] 3)))
  have HP0 : Hid (OwnI w.heap.size (w.alloc (.cells #[] 3)) (.slice (some ⟨w.heap.size, 0, none⟩) 0 0) []) := OwnI.lit0 _ _ (Nat.le_refl _)
  have HLL : Hid (([] : List Int).length + L.length ≤ 2000000) := by show _ ≤ _; simp; omega
  obtain ⟨aa, cap, rfl, m1, m2, m3⟩ := hv.view
  unfold maxLen at m2
  clear m3 hv
  have h0 : 0 < L.length := by omega
  have hiI : (i : Int) < (L.length : Int) := by omega
  go_enter Tryz.func120, Tryz.ntmps120
  go_wp2_with (first | (at_builtin; refine wpList_ownIAll HP0.out HV.out h0 HLL.out rfl (.tmp 8) (.tmp 9) rfl rfl rfl ?_; intro v' w' ho hg; obtain ⟨g, q, rfl, k1, k2, HF⟩ := put_end (x := x) ho hg hi; clear ho hg) | fail)
  go_ret
  exact HF.out
/-- A talk in memory: the game, and what is won after each number of turns. -/
structure Talk (w : World) (tp p n : Nat) (S R : ByteArray) (m : Nat) (S2 R2 : ByteArray) (k cnt : Nat) : Prop where
  g : ∃ fv wv, PebG w p n S R m S2 R2 k fv wv
  t : ∃ wg cap, w.heap[tp]? = some (.cells #[.pointer (some ⟨p, 0, none⟩), .slice (some ⟨wg, 0, none⟩) cnt cap] 59 (0, 0)) ∧ cnt ≤ cap ∧ cap ≤ maxLen ∧ wg < w.heap.size ∧
    ∀ t, t < cnt → ∃ sv, w.cell? ⟨wg, t, none⟩ = some sv ∧ BoolsAt w sv (lev n m k (fitL (stOf n S R) (stOf m S2 R2) n m k) t)
theorem Talk.below {w w' : World} {tp p n m k cnt : Nat} {S R S2 R2 : ByteArray} (h : Talk w tp p n S R m S2 R2 k cnt) (hb : Below w.heap.size w w') : Talk w' tp p n S R m S2 R2 k cnt := by
  obtain ⟨⟨fv, wv, h1⟩, wg, cap, h2, h3, h4, h5, h6⟩ := h
  refine ⟨⟨fv, wv, h1.below hb⟩, wg, cap, (hb.block _ (Array.getElem?_eq_some_iff.1 h2).1).trans h2, h3, h4, Nat.lt_of_lt_of_le h5 hb.size, fun t ht => ?_⟩
  obtain ⟨sv, h7, h8⟩ := h6 t ht
  exact ⟨sv, (hb.cell (p := ⟨wg, t, none⟩) h5).trans h7, h8.below hb⟩
theorem Talk.lt {w : World} {tp p n m k cnt : Nat} {S R S2 R2 : ByteArray} (h : Talk w tp p n S R m S2 R2 k cnt) : tp < w.heap.size := by
  obtain ⟨_, wg, cap, h2, _⟩ := h
  exact (Array.getElem?_eq_some_iff.1 h2).1
theorem won_core (tp p n m k cnt t : Nat) (S R S2 R2 : ByteArray) (L M : List Int) (v u : Value) (w : World) (hT : Talk w tp p n S R m S2 R2 k cnt) (hv : IntsAt w v L) (hu : IntsAt w u M) (hr : Rdy n m L M) (hk : L.length = k) (hk3 : k ≤ 3) (hn : n ≤ 8) (hm : m ≤ 8) (hm0 : 0 < m) (ht : t < cnt) (tu : Bool) :
    Calls Tryz.prog 64 #[.pointer (some ⟨tp, 0, none⟩), if tu then u else v, if tu then v else u, .int .i64 (t : Int), .bool tu] w fun e w' => e = .returned (.bool (pwB (stOf n S R) (stOf m S2 R2) n m t L M)) ∧ Below w.heap.size w w' := by
  have htp := hT.lt
  obtain ⟨⟨fv, wv, hG⟩, wg, cap, h2, h3, h4, h5, h6⟩ := hT
  obtain ⟨sv, h7, sg, scap, rfl, s1, s2, s3, s4⟩ := h6 t ht
  have hll := lev_len n m k (fitL (stOf n S R) (stOf m S2 R2) n m k) t
  rw [fitL_len] at hll
  have hst := stP_lt hr
  rw [hk, ← hll] at hst
  have hsc := s4 _ hst
  have hlev := lev_at (a := stOf n S R) (b := stOf m S2 R2) hm0 t hr
  rw [hk] at hlev
  rw [hlev] at hsc
  have hP65 := pairs_le hn hm
  have hpow := pow_le hP65 hk3
  rw [← hll] at hpow
  have j1 := fun (sc : Since w) => stateOf_any p n m k S R S2 R2 fv wv v u L M sc.w (hG.below sc.below) (hv.below sc.below) (hu.below sc.below) hr hk hk3 hn hm
  have t0 : w.cell? ⟨tp, 0, none⟩ = some (.pointer (some ⟨p, 0, none⟩)) := by unfold World.cell?; rw [h2]; rfl
  have t1 : w.cell? ⟨tp, 1, none⟩ = some (.slice (some ⟨wg, 0, none⟩) cnt cap) := by unfold World.cell?; rw [h2]; rfl
  generalize stP (n * m + 1) m L M = st at *
  generalize (lev n m k (fitL (stOf n S R) (stOf m S2 R2) n m k) t).length = len at *
  generalize pwB (stOf n S R) (stOf m S2 R2) n m t L M = RES at *
  have J1 := Lib.hid j1
  have f0 := fun s => Since.cell t0 s
  have f1 := fun s => Since.cell t1 s
  have f2 := fun s => Since.cell h7 s
  have f3 := fun s => Since.cell hsc s
  have hstI : (st : Int) < (len : Int) := by omega
  have htI : (t : Int) < (cnt : Int) := by omega
  unfold maxLen at h4 s2
  clear j1 hG h6 s4 hv hu hr hlev h2 hll
  cases tu
  all_goals
    simp only [if_true, if_false, Bool.false_eq_true]
    go_enter Tryz.func64, Tryz.ntmps64
    go_wp2_with fail
    refine wp_region_since (by kernel_rfl) (by kernel_rfl) ?_
    repeat (go_big_quiet_step ((with_reducible exact Since.call (J1.out _))))
    refine wpQuiet_nil ?_
    intro w9 hb9
    have HO := Lib.hid hb9
    clear hb9 f0 f1 f2 f3
    go_wp2_with fail
    go_ret
    exact ⟨rfl, HO.out⟩
end Go.Proofs.YtnhlhjehocngcaaGreatDoor
