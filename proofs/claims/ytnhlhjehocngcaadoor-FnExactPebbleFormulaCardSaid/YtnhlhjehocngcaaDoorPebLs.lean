/- The program's listsAt: the elements under pebbles of a way. Conditions: the sizes are small. -/
import Derived.Test.YtnhlhjehocngcaaDoorPebSt
import Derived.Maps.AppendAt
namespace Go.Proofs.YtnhlhjehocngcaaDoor
open Go.RowKit
set_option linter.unusedVariables false
set_option maxRecDepth 100000

/-- Two lists that are built. -/
structure Lys (w : World) (v u : Value) (A B : List Nat) (wr : World) : Prop where
  a : Own w.heap.size wr v A
  b : Own w.heap.size wr u B
  ne : v.ownBlock ≠ u.ownBlock
  old : Below w.heap.size w wr
section
variable {w wr w' : World} {v u v' : Value} {A B A' B' : List Nat}
theorem Own.blockN {B : Nat} {w : World} {v : Value} {L : List Nat} (h : Own B w v L) : ∃ k, v.ownBlock = some k ∧ B ≤ k ∧ k < w.heap.size := by
  obtain ⟨g, cap, rfl, h1, h2, _⟩ := h.cells
  exact ⟨g, rfl, h1, h2⟩
theorem Lys.pushA (h : Lys w v u A B wr) (ho : Own w.heap.size w' v' A') (hg : wr.grownBy w' v.ownBlock) (hat : v'.ownBlock = v.ownBlock ∨ ∃ k, v'.ownBlock = some k ∧ wr.heap.size ≤ k) : Lys w v' u A' B w' := by
  obtain ⟨k, hk, hk1, hk2⟩ := h.b.blockN
  obtain ⟨j, hj, hj1, hj2⟩ := h.a.blockN
  refine ⟨ho, h.b.kept (fun i hi hl => hg.block i hl (fun e => h.ne (e.symm.trans hi.symm))) hg.size, ?_, h.old.grown hg h.old.size (fun i hi => by rw [hj] at hi; injection hi with hi; omega)⟩
  rcases hat with e | ⟨i, e, hi⟩
  · rw [e]; exact h.ne
  · rw [e, hk]; intro e2; injection e2 with e2; omega
theorem Lys.swap (h : Lys w v u A B wr) : Lys w u v B A wr := ⟨h.b, h.a, fun e => h.ne e.symm, h.old⟩
end
/-- One number is appended to a slice of the call's own; the new one lies where it lay, or in a new block. -/
theorem wpList_ownN1 {ops : Array Oper} {rest : List Oper} {o : Oper} {a : Act} {Q : Exit → Act → World → Prop} {B : Nat} {w : World} {v : Value} {L : List Nat}
    (hown : Own B w v L) (hL : L.length ≤ 2000000) (hgd : o.guard = none) (s x : Operand)
    (ho : o.op = .call { callee := .builtin .append, args := #[s, x], argTypes := #[28, 28] }) (y : Nat) (b : Nat) (hb : w.heap.size = b)
    (hs : a.eval s = v) (hx : a.eval x = .slice (some ⟨b, 0, none⟩) 1 1)
    (h : ∀ v' w', Own B w' v' (L ++ [y]) → w.grownBy w' v.ownBlock → (v'.ownBlock = v.ownBlock ∨ ∃ k, v'.ownBlock = some k ∧ w.heap.size ≤ k) → wpList Tryd.prog ops Q rest (a.put o.dst v') w') :
    wpList Tryd.prog ops Q (o :: rest) a (w.alloc (.cells #[.int .i64 (y : Int)] 3)) := by
  subst hb
  obtain ⟨i, hi, hz, h1, h2⟩ := info_parts natInfo3
  have hbase : B ≤ w.heap.size := hown.low
  refine wpList_append_own_at _ hgd s x 28 ho B 3 i (.int .i64 0) 1 8 Tryd.underlying28 hi hz h1 h2 rfl (by decide) v L.length _ hs (hown.own.alloc _) ⟨w.heap.size, 0, none⟩ 1 1 [.int .i64 (y : Int)] hx rfl ?_ ?_ ?_ ?_ ?_ ?_
  · intro j u hj
    match j, hj with
    | 0, hj => simp at hj; subst hj; simp [Addr.add]
  · intro u hu
    simp at hu; subst hu; rfl
  · unfold maxLen; omega
  · omega
  · simp; omega
  · intro v' w' h2 h3 h4 h5
    refine h v' w' ⟨?_, ?_, ?_⟩ ?_ ?_
    · simpa using h2
    · intro e
      exact hown.ne (h4.1 e).1
    · have := h3.size
      simp at this
      omega
    · refine ⟨h3.os, h3.tape, h3.output, ?_, fun k hk hne => ?_⟩
      · have := h3.size
        simp at this
        omega
      · rw [h3.block k (by simp; omega) hne]
        exact Below.heap_alloc _ _ _ hk
    · rcases h5 with e | e
      · exact .inl e
      · exact .inr ⟨_, e, by simp⟩
/-- What listsAt returns. -/
def LysP (A B : List Nat) (w : World) (e : Ending) (w' : World) : Prop := ∃ v u, e = .returned (.tuple #[v, u]) ∧ NumsAt w' v A ∧ NumsAt w' u B ∧ Below w.heap.size w w'
set_option maxHeartbeats 1000000 in
theorem listsAt_any (p n m k : Nat) (S R S2 R2 : ByteArray) (fv wv : Value) (s : Nat) (w : World) (hG : PebG w p n S R m S2 R2 k fv wv) (hk3 : k ≤ 3) (hn : n ≤ 8) (hm : m ≤ 8) (hm0 : 0 < m) (hs : s ≤ 1000000) :
    Calls Tryd.prog 60 #[.pointer (some ⟨p, 0, none⟩), .int .i64 (s : Int)] w (LysP (lyA (n * m + 1) m k s) (lyB (n * m + 1) m k s) w) := by
  have hplt := hG.lt
  obtain ⟨c0, c3, c6, c7, c8, c9, c10, c11, c12⟩ := hG.cells
  have hP65 := pairs_le hn hm
  have hP0 : 0 < n * m + 1 := by omega
  obtain ⟨P, hP⟩ : ∃ P, n * m + 1 = P := ⟨_, rfl⟩
  rw [hP] at c7 hP65 hP0 ⊢
  obtain ⟨RA, hra⟩ : ∃ r, lyA P m k s = r := ⟨_, rfl⟩
  obtain ⟨RB, hrb⟩ : ∃ r, lyB P m k s = r := ⟨_, rfl⟩
  have HRES : Hid (lyA P m k s = RA ∧ lyB P m k s = RB) := ⟨hra, hrb⟩
  rw [hra, hrb]
  have HP0 : Hid (Lys w (.slice (some ⟨w.heap.size, 0, none⟩) 0 0) (.slice (some ⟨w.heap.size + 1, 0, none⟩) 0 0) [] [] ((w.alloc (.cells #[] 3)).alloc (.cells #[] 3))) := by
    refine ⟨(Own.lit0 _ _ (Nat.le_refl _)).below ((Below.refl _ _).alloc (Nat.le_refl _) _), ?_, by simp [Value.ownBlock], ((Below.refl _ _).alloc (Nat.le_refl _) _).alloc (by simp) _⟩
    have := Own.lit0 w.heap.size (w.alloc (.cells #[] 3)) (by simp)
    simpa using this
  clear hP hra hrb hG c8 c9 c10 c11 c12 c0
  go_enter Tryd.func60, Tryd.ntmps60
  go_wp2_with fail
  go_loopw [15, 1, 6, 7, 8] (fun q z v u _ wr => ∃ (j sj : Nat) (A B : List Nat), j ≤ k ∧ q = .int .i64 (j : Int) ∧ z = .int .i64 (sj : Int) ∧ sj ≤ 1000000 ∧ Hid (Lys w v u A B wr) ∧ Hid (A ++ lyA P m (k - j) sj = RA ∧ B ++ lyB P m (k - j) sj = RB ∧ A.length ≤ j ∧ B.length ≤ j)) (fun q _ _ _ _ _ => k - (intOf q).toNat)
  case atStart => exact ⟨0, s, [], [], by omega, rfl, rfl, hs, HP0, ⟨HRES.out.1, HRES.out.2, Nat.le_refl _, Nat.le_refl _⟩⟩
  case round =>
    clear HP0 HRES
    obtain ⟨j, sj, A, B, hj, rfl, rfl, hsj, HL, HE⟩ := hrel
    have hc7 := (HL.out.old.cell (p := ⟨p, 7, none⟩) hplt).trans c7
    have hc3 := (HL.out.old.cell (p := ⟨p, 3, none⟩) hplt).trans c3
    by_cases hlt : j < k
    · have hjI : (j : Int) < (k : Int) := by omega
      obtain ⟨d, hd⟩ : ∃ d, sj % P = d := ⟨_, rfl⟩
      obtain ⟨q, hq⟩ : ∃ d, sj / P = d := ⟨_, rfl⟩
      have hdP : d < P := by rw [← hd]; exact Nat.mod_lt _ hP0
      have hqs : q ≤ sj := by rw [← hq]; exact Nat.div_le_self _ _
      have hdI : (sj : Int) % (P : Int) = (d : Int) := by rw [← hd]; exact (Int.natCast_emod sj P).symm
      have hdT : (sj : Int).tmod (P : Int) = (d : Int) := by rw [← hd]; exact (Int.ofNat_tmod sj P).symm
      have hqI : (sj : Int) / (P : Int) = (q : Int) := by rw [← hq]; exact (Int.natCast_ediv sj P).symm
      have hqT : (sj : Int).tdiv (P : Int) = (q : Int) := by rw [← hq]; exact (Int.ofNat_tdiv sj P).symm
      have hPn : ¬ (P : Int) = 0 := by omega
      have HKJ : Hid (k - j = (k - (j + 1)) + 1) := by show _ = _; omega
      have HE2 : Hid (A ++ lyA P m (k - (j + 1) + 1) sj = RA ∧ B ++ lyB P m (k - (j + 1) + 1) sj = RB ∧ A.length ≤ j ∧ B.length ≤ j) := by rw [← HKJ.out]; exact HE.out
      clear HE
      rcases Nat.eq_zero_or_pos d with h00 | h00
      · subst h00
        have HE3 : Hid (A ++ lyA P m (k - (j + 1)) q = RA ∧ B ++ lyB P m (k - (j + 1)) q = RB ∧ A.length ≤ j + 1 ∧ B.length ≤ j + 1) := by
          have := HE2.out
          unfold lyA lyB at this
          rw [hd, hq] at this
          exact ⟨this.1, this.2.1, by omega, by omega⟩
        clear hd hq HE2
        go_wp2_with fail
        go_roundw
        case rel => exact ⟨j + 1, q, A, B, by omega, by go_num, rfl, by omega, HL, HE3⟩
        case measure => simp [intOf]; omega
      · obtain ⟨d1, rfl⟩ : ∃ d1, d = d1 + 1 := ⟨d - 1, by omega⟩
        obtain ⟨x, hx⟩ : ∃ x, d1 / m = x := ⟨_, rfl⟩
        obtain ⟨y, hy⟩ : ∃ x, d1 % m = x := ⟨_, rfl⟩
        have HE3 : Hid ((A ++ [x]) ++ lyA P m (k - (j + 1)) q = RA ∧ (B ++ [y]) ++ lyB P m (k - (j + 1)) q = RB ∧ (A ++ [x]).length ≤ j + 1 ∧ (B ++ [y]).length ≤ j + 1) := by
          have := HE2.out
          unfold lyA lyB at this
          rw [hd, hq, if_pos (Nat.succ_pos d1), if_pos (Nat.succ_pos d1), Nat.add_sub_cancel, hx, hy] at this
          refine ⟨by rw [List.append_assoc]; exact this.1, by rw [List.append_assoc]; exact this.2.1, by simp; omega, by simp; omega⟩
        have hd1 : ((d1 + 1 : Nat) : Int) - 1 = (d1 : Int) := by omega
        have hxI : (d1 : Int) / (m : Int) = (x : Int) := by rw [← hx]; exact (Int.natCast_ediv d1 m).symm
        have hxT : (d1 : Int).tdiv (m : Int) = (x : Int) := by rw [← hx]; exact (Int.ofNat_tdiv d1 m).symm
        have hyI : (d1 : Int) % (m : Int) = (y : Int) := by rw [← hy]; exact (Int.natCast_emod d1 m).symm
        have hyT : (d1 : Int).tmod (m : Int) = (y : Int) := by rw [← hy]; exact (Int.ofNat_tmod d1 m).symm
        have hmn : ¬ (m : Int) = 0 := by omega
        have HLL : Hid (A.length ≤ 2000000 ∧ B.length ≤ 2000000) := ⟨by have := HE2.out.2.2.1; omega, by have := HE2.out.2.2.2; omega⟩
        have hxb : x ≤ d1 := by rw [← hx]; exact Nat.div_le_self _ _
        have hyb : y < m := by rw [← hy]; exact Nat.mod_lt _ hm0
        clear hd hq hx hy HE2
        go_wp2_with (first | (at_builtin; refine wpList_ownN1 HL.out.a HLL.out.1 rfl (.tmp 25) (.tmp 34) rfl x _ rfl rfl rfl ?_; intro v' w' ho hg hat; have HP2 := Lib.hid (HL.out.pushA ho hg hat); have hc72 := (HP2.out.old.cell (p := ⟨p, 7, none⟩) hplt).trans c7; have hc32 := (HP2.out.old.cell (p := ⟨p, 3, none⟩) hplt).trans c3; clear ho hg hat) | (at_builtin; refine wpList_ownN1 HP2.out.b HLL.out.2 rfl (.tmp 36) (.tmp 45) rfl y _ rfl rfl rfl ?_; intro v'2 w'2 ho hg hat; have HP3 := Lib.hid ((HP2.out.swap.pushA ho hg hat).swap); have hc73 := (HP3.out.old.cell (p := ⟨p, 7, none⟩) hplt).trans c7; clear ho hg hat) | fail)
        go_roundw
        case rel => exact ⟨j + 1, q, A ++ [x], B ++ [y], by omega, by go_num, rfl, by omega, HP3, HE3⟩
        case measure => simp [intOf]; omega
    · obtain rfl : j = k := by omega
      have HF : Hid (LysP RA RB w (.returned (.tuple #[u6, u7])) wr) := by
        have h := HE.out
        rw [Nat.sub_self] at h
        unfold lyA lyB at h
        rw [List.append_nil, List.append_nil] at h
        exact ⟨u6, u7, rfl, by rw [← h.1]; exact HL.out.a.nums, by rw [← h.2.1]; exact HL.out.b.nums, HL.out.old⟩
      go_wp2_with fail
      go_ret2
      exact HF.out
end Go.Proofs.YtnhlhjehocngcaaDoor
