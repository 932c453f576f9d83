/- Contracts of the program's functions and what they compute: part 24. Conditions: those that each theorem states. -/
import Derived.Test.YtihomcedaaiidaaGreatDoorP55n22
import Derived.Test.YtihomcedaaiidaaGreatDoorP55n23
import Derived.Deep.DeepCutAuto
import Derived.IntWalk
namespace Go.Proofs.YtihomcedaaiidaaGreatDoor
open Go.RowKit
set_option linter.unusedVariables false
set_option maxRecDepth 100000
def txtS (l : List UInt8) : ByteArray := ⟨l.toArray⟩
theorem txtS_app (a b : List UInt8) : txtS a ++ txtS b = txtS (a ++ b) := by
  apply ByteArray.ext
  simp [txtS, ByteArray.data_append]
theorem txtS_size (l : List UInt8) : (txtS l).size = l.length := by simp [txtS, ByteArray.size]
def putVal (r : Option Fm.T) : Value := match r with
  | none => .tuple #[.string ByteArray.empty, .bool false]
  | some ψ => .tuple #[.string (txtS (Fm.text ψ)), .bool true]
/-- Where the formulas of a view are. -/
def VAt (V : Option (Fm.T × Fm.T)) (F : Nat → Prop) (w : World) (sp rp : Option Addr) : Prop :=
  (V = none ∧ sp = none ∧ rp = none) ∨ ∃ ps pr a b, V = some (ps, pr) ∧ sp = some ⟨a, 0, none⟩ ∧ rp = some ⟨b, 0, none⟩ ∧ Tree F w ps a ∧ Tree F w pr b
theorem VAt.below {V : Option (Fm.T × Fm.T)} {F : Nat → Prop} {w w' : World} {sp rp : Option Addr} (h : VAt V F w sp rp) (hb : Below w.heap.size w w') : VAt V F w' sp rp := by
  rcases h with h | ⟨ps, pr, a, b, h1, h2, h3, h4, h5⟩
  · exact .inl h
  · exact .inr ⟨ps, pr, a, b, h1, h2, h3, h4.below hb, h5.below hb⟩
def PutOK (V : Option (Fm.T × Fm.T)) (φ : Fm.T) : Prop := ∀ (F : Nat → Prop) (w : World) (p : Nat) (m : Fm.M) (sp rp : Option Addr), Tree F w φ p → VAt V F w sp rp →
  Calls Tryz.prog 95 #[.agg #[.pointer sp, .pointer rp], ptrV p, arrV m] w fun e w' => e = .returned (putVal (Fm.putG V φ m)) ∧ Below w.heap.size w w'
/-- What put has laid down and keeps. -/
structure Pn (w wr : World) (m : Fm.M) (sp rp : Option Addr) : Prop where
  put : wr.heap[w.heap.size]? = some (.cells #[.pointer sp, .pointer rp] 127 (0, 0))
  arr : wr.heap[w.heap.size + 1]? = some (.cells (arrC m) 129 (0, 0))
  old : Below w.heap.size w wr
section
variable {w wr w' : World} {m : Fm.M} {sp rp : Option Addr}
theorem Pn.size (h : Pn w wr m sp rp) : w.heap.size + 2 ≤ wr.heap.size := (Array.getElem?_eq_some_iff.1 h.arr).1
theorem Pn.up {B : Nat} (h : Pn w wr m sp rp) (hB : w.heap.size + 2 ≤ B) (hb : Below B wr w') : Pn w w' m sp rp :=
  ⟨(hb.block _ (by omega)).trans h.put, (hb.block _ (by omega)).trans h.arr, h.old.trans (hb.mono (by omega))⟩
theorem Pn.below (h : Pn w wr m sp rp) (hb : Below wr.heap.size wr w') : Pn w w' m sp rp := h.up h.size hb
theorem Pn.cells (h : Pn w wr m sp rp) : wr.cell? ⟨w.heap.size, 0, none⟩ = some (.pointer sp) ∧ wr.cell? ⟨w.heap.size, 1, none⟩ = some (.pointer rp) ∧ (∀ x : Fin 4, wr.cell? ⟨w.heap.size + 1, x.val, none⟩ = some (.int .u8 (bAt m x))) ∧ w.heap.size < wr.heap.size := by
  refine ⟨?_, ?_, fun x => c4_cell h.arr x, by have := h.size; omega⟩ <;> simp [World.cell?, h.put]
theorem Pn.setv (h : Pn w wr m sp rp) (v u : Fin 4) : Pn w (wr.setCell ⟨w.heap.size + 1, v.val, none⟩ (.int .u8 ((97 + u.val : Nat) : Int))) (Fm.fput m v u) sp rp := by
  have hs := h.size
  refine ⟨(Below.heap_setCell _ _ _ _ (by simp)).trans h.put, ?_, h.old.setCell (by simp) _⟩
  have := c4_set h.arr v (.int .u8 ((97 + u.val : Nat) : Int))
  rw [this]
  unfold arrC
  congr 3
  funext y
  unfold bAt Fm.fput
  by_cases hy : y = v
  · simp [hy]
  · simp [hy]
end
theorem kinds (V : Option (Fm.T × Fm.T)) (φ : Fm.T) : (∃ x q, V = some q ∧ φ = .set x) ∨ (∃ x y q, V = some q ∧ φ = .rel true x y) ∨ (Fm.isQu φ.op = false ∧ (φ.op = 80 → V = none) ∧ (φ.op = 69 → V = none)) ∨ ∃ q v f, φ = .qu q v f := by
  cases V with
  | none =>
    cases φ with
    | qu q v f => exact .inr (.inr (.inr ⟨q, v, f, rfl⟩))
    | lit b => exact .inr (.inr (.inl ⟨by cases b <;> rfl, fun _ => rfl, fun _ => rfl⟩))
    | set x => exact .inr (.inr (.inl ⟨rfl, fun _ => rfl, fun _ => rfl⟩))
    | rel e x y => exact .inr (.inr (.inl ⟨by cases e <;> rfl, fun _ => rfl, fun _ => rfl⟩))
    | neg f => exact .inr (.inr (.inl ⟨rfl, fun _ => rfl, fun _ => rfl⟩))
    | bin o f g => exact .inr (.inr (.inl ⟨by cases o <;> rfl, fun _ => rfl, fun _ => rfl⟩))
  | some q =>
    cases φ with
    | qu q v f => exact .inr (.inr (.inr ⟨q, v, f, rfl⟩))
    | lit b => exact .inr (.inr (.inl ⟨by cases b <;> rfl, fun h => by cases b <;> exact absurd h (by simp [Fm.T.op]), fun h => by cases b <;> exact absurd h (by simp [Fm.T.op])⟩))
    | set x => exact .inl ⟨x, q, rfl, rfl⟩
    | rel e x y =>
      cases e
      · exact .inr (.inr (.inl ⟨rfl, fun h => absurd h (by simp [Fm.T.op]), fun h => absurd h (by simp [Fm.T.op])⟩))
      · exact .inr (.inl ⟨x, y, q, rfl, rfl⟩)
    | neg f => exact .inr (.inr (.inl ⟨rfl, fun h => absurd h (by simp [Fm.T.op]), fun h => absurd h (by simp [Fm.T.op])⟩))
    | bin o f g => exact .inr (.inr (.inl ⟨by cases o <;> rfl, fun h => by cases o <;> exact absurd h (by simp [Fm.T.op]), fun h => by cases o <;> exact absurd h (by simp [Fm.T.op])⟩))
theorem vs_le (φ : Fm.T) : φ.vs.length ≤ 2 := by cases φ <;> simp [Fm.T.vs]
theorem ps_le (φ : Fm.T) : φ.ps.length ≤ 2 := by cases φ <;> simp [Fm.T.ps]
theorem part_at {F : Nat → Prop} {w : World} : ∀ {fs : List Fm.T} {qs : List Nat} (i : Nat) (h : i < fs.length), Trees F w fs qs → Tree F w (fs[i]) (qs.getD i 0)
  | [], _, i, h, _ => by simp at h
  | f :: fs, [], i, h, ht => ht.elim
  | f :: fs, q :: qs, 0, h, ht => ht.1
  | f :: fs, q :: qs, i + 1, h, ht => by
    have := part_at (fs := fs) (qs := qs) i (by simpa using h) ht.2
    simpa using this
theorem put_and1 (a : Nat) (ha : a < 9223372036854775808) : bits .and .i64 (a : Int) 1 = ((a % 2 : Nat) : Int) := by
  have ho : ∀ b : Nat, b < 9223372036854775808 → (BitVec.ofInt 64 (b : Int)).toNat = b := fun b hb => by
    rw [BitVec.ofInt_natCast, BitVec.toNat_ofNat]; exact Nat.mod_eq_of_lt (by omega)
  show IntKind.i64.wrap ((BitVec.ofInt 64 (a : Int) &&& BitVec.ofInt 64 ((1 : Nat) : Int)).toNat : Int) = _
  rw [BitVec.toNat_and, ho a ha, ho 1 (by omega), Nat.and_one_is_mod]
  exact IntWalk.i64_in _ (by omega)
theorem put_bits (fr c : Nat) (hf : fr < 16) : (bits .and .i64 ((fr : Int) / (c : Int)) 1 = 0 ∧ ¬ fr / c % 2 = 1) ∨ (bits .and .i64 ((fr : Int) / (c : Int)) 1 = 1 ∧ fr / c % 2 = 1) := by
  have h := put_and1 (fr / c) (Nat.lt_of_le_of_lt (Nat.div_le_self _ _) (by omega))
  rw [Int.natCast_ediv] at h
  rcases (show fr / c % 2 = 0 ∨ fr / c % 2 = 1 by omega) with h0 | h0
  · rw [h0] at h
    exact .inl ⟨h, by omega⟩
  · rw [h0] at h
    exact .inr ⟨h, h0⟩
/-- What the loop over the variables keeps. -/
structure Tk (w wr : World) (m : Fm.M) (sp rp : Option Addr) (x12 fr : Nat) (x : Fin 4) (i : Nat) : Prop where
  tk : wr.heap[x12]? = some (.cells (c4 fun j => .bool (Fm.tkTo fr m x i j)) 160 (0, 0))
  pn : Pn w wr m sp rp
  hi : w.heap.size + 2 ≤ x12
theorem tkTo_no {s i : Nat} {m : Fm.M} {v : Fin 4} (h : ¬ s / 2 ^ i % 2 = 1 ∨ v.val = i) : Fm.tkTo s m v (i + 1) = Fm.tkTo s m v i := by
  funext y
  show (Fm.tkTo s m v i y || _) = _
  rcases h with h | h
  · rw [decide_eq_false h]; simp
  · rw [decide_eq_false (show ¬ i ≠ v.val by omega)]; simp
theorem tkTo_yes {s i : Nat} {m : Fm.M} {v : Fin 4} (hi : i < 4) (h1 : s / 2 ^ i % 2 = 1) (h2 : ¬ v.val = i) : (fun y => if y = m ⟨i, hi⟩ then Value.bool true else Value.bool (Fm.tkTo s m v i y)) = fun y => Value.bool (Fm.tkTo s m v (i + 1) y) := by
  funext y
  have e : Fm.tkTo s m v (i + 1) y = (Fm.tkTo s m v i y || decide (m ⟨i, hi⟩ = y)) := by
    show (Fm.tkTo s m v i y || _) = _
    rw [decide_eq_true h1, decide_eq_true (show i ≠ v.val by omega), dif_pos hi]; simp
  rw [e]
  by_cases hy : y = m ⟨i, hi⟩
  · rw [if_pos hy, decide_eq_true hy.symm]; simp
  · rw [if_neg hy, decide_eq_false (fun h => hy h.symm)]; simp
section
variable {w wr : World} {m : Fm.M} {sp rp : Option Addr} {x12 fr i : Nat} {x : Fin 4}
theorem Tk.keep (h : Tk w wr m sp rp x12 fr x i) (hn : ¬ fr / 2 ^ i % 2 = 1 ∨ x.val = i) : Tk w wr m sp rp x12 fr x (i + 1) := ⟨by rw [tkTo_no hn]; exact h.tk, h.pn, h.hi⟩
theorem Tk.store (h : Tk w wr m sp rp x12 fr x i) (hi : i < 4) (h1 : fr / 2 ^ i % 2 = 1) (h2 : ¬ x.val = i) : Tk w (wr.setCell ⟨x12, (m ⟨i, hi⟩).val, none⟩ (.bool true)) m sp rp x12 fr x (i + 1) := by
  have hh := h.hi
  refine ⟨?_, ⟨(Below.heap_setCell _ _ _ _ (by simp; omega)).trans h.pn.put, (Below.heap_setCell _ _ _ _ (by simp; omega)).trans h.pn.arr, h.pn.old.setCell (by simp; omega) _⟩, hh⟩
  rw [c4_set h.tk, tkTo_yes hi h1 h2]
end
set_option maxHeartbeats 8000000 in
theorem put_step (V : Option (Fm.T × Fm.T)) (hVS : Fm.VShort V) (hV : ∀ ps pr, V = some (ps, pr) → PutOK none ps ∧ PutOK none pr) (φ : Fm.T) (hφ : (Fm.text φ).length ≤ 4000) (IH : ∀ f ∈ φ.ps, PutOK V f) : PutOK V φ := by
  intro F w p m sp rp hT hVA
  have HT := Lib.hid hT; have HVA := Lib.hid hVA
  have HIH := Lib.hid IH; have HVV := Lib.hid hV
  have HSZ : Hid (∀ f ∈ φ.ps, ∀ m' ψ, Fm.putG V f m' = some ψ → (Fm.text ψ).length ≤ 16000000) := fun f hf m' ψ h => Fm.putG_size hVS (by
    have : (Fm.text f).length ≤ (Fm.text φ).length := by
      cases φ <;> simp [Fm.T.ps] at hf
      · subst hf; simp [Fm.text]
      · rcases hf with rfl | rfl <;> simp [Fm.text] <;> omega
      · subst hf; simp [Fm.text]; omega
    omega) h
  obtain ⟨v, u, qs, nd, hts⟩ := hT.node
  have HND := Lib.hid nd; have HTS := Lib.hid hts
  have hql := hts.length
  obtain ⟨av, cv, rfl, lv, mv, hvc⟩ := nd.vars.view
  obtain ⟨ap, cp, rfl, lp, mp, hpc⟩ := nd.parts.view
  simp only [List.length_map] at lv lp hvc hpc nd
  have HVC := Lib.hid hvc; have HPC := Lib.hid hpc
  have hk2 := vs_le φ
  have hq2 := ps_le φ
  unfold maxLen at mv mp
  have cs := nd.cells
  have HCS := Lib.hid (And.intro cs.1 (And.intro cs.2.1 (And.intro cs.2.2.1 cs.2.2.2.1)))
  obtain ⟨W, hW⟩ : ∃ W, (w.alloc (.cells #[.pointer sp, .pointer rp] 127)).alloc (.cells (arrC m) 129) = W := ⟨_, rfl⟩
  have HP0 : Hid (Pn w W m sp rp ∧ W.heap.size = w.heap.size + 2) := by
    subst hW
    refine ⟨⟨?_, ?_, ((Below.refl w.heap.size w).alloc (Nat.le_refl _) _).alloc (by simp) _⟩, by simp⟩
    · exact (Below.heap_alloc _ _ _ (by simp)).trans (heap_alloc_new w _)
    · have := heap_alloc_new (w.alloc (.cells #[.pointer sp, .pointer rp] 127)) (.cells (arrC m) 129)
      simpa using this
  unfold arrC c4 at hW
  have HW := Lib.hid hW
  clear hT hVA IH hV hVS hφ nd hts hvc hpc cs hW
  obtain ⟨RES, hres⟩ : ∃ r, Fm.putG V φ m = r := ⟨_, rfl⟩
  rw [hres]
  have HRES := Lib.hid hres
  clear hres
  unfold arrV arrC c4 ptrV
  go_enter Tryz.func95, Tryz.ntmps95
  go_upto_region 1 with fail
  rw [HW.out]
  have HO0 : Hid (OwnB (w.heap.size + 2) (W.alloc (.cells #[] 5)) (.slice (some ⟨W.heap.size, 0, none⟩) 0 0) ((φ.vs.take 0).map (bAt m)) ∧ Pn w (W.alloc (.cells #[] 5)) m sp rp) :=
    ⟨OwnB.lit _ W _ rfl (by rw [HP0.out.2]; exact Nat.le_refl _), HP0.out.1.below ((Below.refl _ _).alloc (Nat.le_refl _) _)⟩
  have d1 := (HO0.out.2.old.cell (World.block_lt_of_cell? _ _ HCS.out.2.1)).trans HCS.out.2.1
  go_wp2_with fail
  go_loopw [27, 8] (fun i vn wr => ∃ k : Nat, k ≤ φ.vs.length ∧ i = .int .i64 (k : Int) ∧ Hid (OwnB (w.heap.size + 2) wr vn ((φ.vs.take k).map (bAt m)) ∧ Pn w wr m sp rp)) (fun i _ _ => φ.vs.length - (intOf i).toNat)
  case atStart => exact ⟨0, by omega, rfl, HO0.out⟩
  case round =>
    obtain ⟨k, hk, rfl, HI⟩ := hrel
    clear d1
    by_cases hlt : k < φ.vs.length
    · obtain ⟨g, rfl, hg0, hg1, hgc⟩ := HVC.out (by omega)
      obtain ⟨x, hx⟩ : ∃ x, φ.vs[k] = x := ⟨_, rfl⟩
      have hc0 : w.cell? ⟨g, k, none⟩ = some (.int .u8 ((97 + x.val : Nat) : Int)) := by
        rw [hgc k hlt]
        simp [hlt, hx, vbV]
      have d1 := (HI.out.2.old.cell (p := ⟨g, k, none⟩) hg1).trans hc0
      have d2 := HI.out.2.cells.2.2.1 x
      have e1 := vb_sub2 x
      have hx4 : (x.val : Int) < 4 ∧ (0 : Int) ≤ (x.val : Int) := by have := x.isLt; omega
      have HTK : Hid ((φ.vs.take (k + 1)).map (bAt m) = (φ.vs.take k).map (bAt m) ++ [bAt m x]) := by
        show _ = _
        rw [List.take_succ_eq_append_getElem hlt, List.map_append, hx]; rfl
      have HLL : Hid (((φ.vs.take k).map (bAt m)).length ≤ 2000000) := by
        show _ ≤ _
        rw [List.length_map, List.length_take]; omega
      have hkI : (k : Int) < (φ.vs.length : Int) := by omega
      clear hgc hc0 hx
      generalize bAt m x = y at *
      obtain ⟨z, hz⟩ : ∃ z : Int, ((97 + x.val : Nat) : Int) = z := ⟨_, rfl⟩
      rw [hz] at d1 e1
      clear hz
      generalize x.val = xv at *
      go_wp2_with (first | (at_builtin; refine wpList_ownB1 HI.out.1 HLL.out rfl (.tmp 31) (.tmp 36) rfl y _ rfl rfl rfl ?_; intro v' w' ho hg; have HI2 : Hid (OwnB (w.heap.size + 2) w' v' ((φ.vs.take k).map (bAt m) ++ [y]) ∧ Pn w w' m sp rp) := (⟨ho, HI.out.2.up (Nat.le_refl _) (((Below.refl (w.heap.size + 2) _)).grown hg HI.out.2.size (fun b hb => (HI.out.1.own.lt b hb).1))⟩); clear ho hg) | fail)
      go_roundw
      case rel => exact ⟨k + 1, by omega, by go_num, by rw [HTK.out]; exact HI2.out⟩
      case measure => simp [intOf]; omega
    · have HN : Hid (OwnB (w.heap.size + 2) wr u8 (φ.vs.map (bAt m)) ∧ Pn w wr m sp rp) := by
        refine ⟨?_, HI.out.2⟩
        have h := HI.out.1
        rw [List.take_of_length_le (by omega)] at h
        exact h
      have hkE : (k : Int) = (φ.vs.length : Int) := by omega
      clear HI HO0
      have c0 := (HN.out.2.old.cell (World.block_lt_of_cell? _ _ HCS.out.1)).trans HCS.out.1
      obtain ⟨b0, b1, bx, bl⟩ := HN.out.2.cells
      rcases kinds V φ with ⟨x, ⟨ps, pr⟩, rfl, rfl⟩ | ⟨x, y, ⟨ps, pr⟩, rfl, rfl⟩ | ⟨hnq, h80, h69⟩ | ⟨q, x, f, rfl⟩
      · replace c0 : wr.cell? ⟨p, 0, none⟩ = some (.int .u8 80) := c0
        obtain ⟨ps', pr', a, b, h1, rfl, rfl, hta, htb⟩ : ∃ ps' pr' a b, some (ps, pr) = some (ps', pr') ∧ sp = some ⟨a, 0, none⟩ ∧ rp = some ⟨b, 0, none⟩ ∧ Tree F w ps' a ∧ Tree F w pr' b := by
          rcases HVA.out with ⟨h, _⟩ | h
          · cases h
          · exact h
        injection h1 with h1
        injection h1 with h1 h2
        subst h1; subst h2
        obtain ⟨gn, cn, hvn, hn1, hn2, hn3, hn4, hn5'⟩ := HN.out.1.cells
        replace hvn : u8 = .slice (some ⟨gn, 0, none⟩) 1 cn := hvn
        have hn5 : wr.cell? ⟨gn, 0, none⟩ = some (.int .u8 (bAt m x)) := hn5' 0 (by simp [Fm.T.vs])
        replace hn3 : 1 ≤ cn := hn3
        subst hvn
        have HC : Hid (∀ s : Since wr, Calls Tryz.prog 95 #[.agg #[.pointer none, .pointer none], .pointer (some ⟨a, 0, none⟩), .agg #[.int .u8 (bAt m x), .int .u8 98, .int .u8 99, .int .u8 100]] s.w fun e w' => e = .returned (putVal RES) ∧ Below s.w.heap.size s.w w') := fun s => by
          have h := (HVV.out ps pr rfl).1 F s.w a (Fm.fput id 0 (m x)) none none (hta.below (HN.out.2.old.trans (s.below.mono HN.out.2.old.size))) (.inl ⟨rfl, rfl, rfl⟩)
          rw [Fm.putG_none] at h
          rw [← HRES.out]
          exact h
        have HB := Lib.hid HN.out.2.old
        generalize bAt m x = z at *
        unfold maxLen at hn4
        clear HIH HVV HSZ HND HTS HVC HPC HCS HN HVA HT HRES hta htb bx hn5'
        obtain ⟨ts, tb, hsb⟩ : ∃ (s : ByteArray) (b : Bool), putVal RES = .tuple #[.string s, .bool b] := by cases RES <;> exact ⟨_, _, rfl⟩
        have HSB := Lib.hid hsb
        rw [hsb] at HC
        clear hsb
        go_wp2_with fail
        have f0 := fun s => Since.cell b0 s
        have f1 := fun s => Since.cell hn5 s
        refine wp_region_since (by kernel_rfl) (by kernel_rfl) ?_
        repeat (go_big_quiet_step ((with_reducible exact Since.call (HC.out _))))
        refine wpQuiet_nil ?_
        intro w1 hb1
        have HB1 := Lib.hid (HB.out.trans (hb1.mono HB.out.size))
        clear hb1 f0 f1
        go_wp2_with fail
        go_ret2
        exact ⟨congrArg Ending.returned HSB.out.symm, HB1.out⟩
      · replace c0 : wr.cell? ⟨p, 0, none⟩ = some (.int .u8 69) := c0
        obtain ⟨ps', pr', a, b, h1, rfl, rfl, hta, htb⟩ : ∃ ps' pr' a b, some (ps, pr) = some (ps', pr') ∧ sp = some ⟨a, 0, none⟩ ∧ rp = some ⟨b, 0, none⟩ ∧ Tree F w ps' a ∧ Tree F w pr' b := by
          rcases HVA.out with ⟨h, _⟩ | h
          · cases h
          · exact h
        injection h1 with h1
        injection h1 with h1 h2
        subst h1; subst h2
        obtain ⟨gn, cn, hvn, hn1, hn2, hn3, hn4, hn5'⟩ := HN.out.1.cells
        replace hvn : u8 = .slice (some ⟨gn, 0, none⟩) 2 cn := hvn
        have hn5 : wr.cell? ⟨gn, 0, none⟩ = some (.int .u8 (bAt m x)) := hn5' 0 (by simp [Fm.T.vs])
        have hn6 : wr.cell? ⟨gn, 1, none⟩ = some (.int .u8 (bAt m y)) := hn5' 1 (by simp [Fm.T.vs])
        replace hn3 : 2 ≤ cn := hn3
        subst hvn
        have HC : Hid (∀ s : Since wr, Calls Tryz.prog 95 #[.agg #[.pointer none, .pointer none], .pointer (some ⟨b, 0, none⟩), .agg #[.int .u8 (bAt m x), .int .u8 (bAt m y), .int .u8 99, .int .u8 100]] s.w fun e w' => e = .returned (putVal RES) ∧ Below s.w.heap.size s.w w') := fun s => by
          have h := (HVV.out ps pr rfl).2 F s.w b (Fm.fput (Fm.fput id 1 (m y)) 0 (m x)) none none (htb.below (HN.out.2.old.trans (s.below.mono HN.out.2.old.size))) (.inl ⟨rfl, rfl, rfl⟩)
          rw [Fm.putG_none] at h
          rw [← HRES.out]
          exact h
        have HB := Lib.hid HN.out.2.old
        generalize bAt m y = z2 at *
        generalize bAt m x = z at *
        unfold maxLen at hn4
        clear HIH HVV HSZ HND HTS HVC HPC HCS HN HVA HT HRES hta htb bx hn5'
        obtain ⟨ts, tb, hsb⟩ : ∃ (s : ByteArray) (b : Bool), putVal RES = .tuple #[.string s, .bool b] := by cases RES <;> exact ⟨_, _, rfl⟩
        have HSB := Lib.hid hsb
        rw [hsb] at HC
        clear hsb
        go_wp2_with fail
        have f0 := fun s => Since.cell b1 s
        have f1 := fun s => Since.cell hn5 s
        have f2 := fun s => Since.cell hn6 s
        refine wp_region_since (by kernel_rfl) (by kernel_rfl) ?_
        repeat (go_big_quiet_step ((with_reducible exact Since.call (HC.out _))))
        refine wpQuiet_nil ?_
        intro w1 hb1
        have HB1 := Lib.hid (HB.out.trans (hb1.mono HB.out.size))
        clear hb1 f0 f1
        go_wp2_with fail
        go_ret2
        exact ⟨congrArg Ending.returned HSB.out.symm, HB1.out⟩
      · have HF : Hid (Fm.PutFacts V φ.ps m (φ.op :: φ.vs.map fun x => Fm.vb (m x)) RES) := by
          have h := Fm.facts_plain m φ hnq h80 h69
          rw [HRES.out] at h
          exact h
        have HQU : Hid (∀ W, Below w.heap.size w W → Calls Tryz.prog 67 #[.pointer (some ⟨p, 0, none⟩)] W fun e w' => e = .returned (.bool false) ∧ W = w') := fun W hb => by
          have h := quant_any W (HND.out.kept (F' := F) (fun b _ hl => hb.block b hl) (fun _ h => h))
          rw [hnq] at h
          exact h
        have h80' : φ.op = 80 → sp = none := fun h => by
          rcases HVA.out with ⟨_, h1, _⟩ | ⟨_, _, _, _, h1, _⟩
          · exact h1
          · rw [h80 h] at h1; cases h1
        have h69' : φ.op = 69 → rp = none := fun h => by
          rcases HVA.out with ⟨_, _, h1⟩ | ⟨_, _, _, _, h1, _⟩
          · exact h1
          · rw [h69 h] at h1; cases h1
        obtain ⟨gn, cn, hvn, hn1, hn2, hn3, hn4, hn5⟩ := HN.out.1.cells
        rw [List.length_map] at hvn hn3 hn5
        obtain ⟨LB, hLB⟩ : ∃ l, (φ.vs.map fun x => Fm.vb (m x)) = l := ⟨_, rfl⟩
        have HLN : Hid (LB.length = φ.vs.length) := by show _ = _; rw [← hLB, List.length_map]
        have HNC : Hid (∀ j (hj : j < LB.length), wr.drew.cell? ⟨gn, j, none⟩ = some (.int .u8 (LB[j].toNat : Int))) := fun j hj => by
          have h := hn5 j (by rw [HLN.out] at hj; exact hj)
          have e : wr.drew.cell? ⟨gn, j, none⟩ = wr.cell? ⟨gn, j, none⟩ := rfl
          rw [e, h]
          subst hLB
          have hj2 : j < φ.vs.length := by simpa using hj
          simp [hj2, bAt_vb]
        rw [hLB] at HF
        have HPM := Lib.hid HN.out.2
        obtain ⟨PS, hPS⟩ : ∃ l, φ.ps = l := ⟨_, rfl⟩
        rw [hPS] at HIH HSZ HTS hql hq2 HF
        have HC2 := Lib.hid HCS.out.2.2.1
        obtain ⟨nv, hnv⟩ : ∃ n, φ.vs.length = n := ⟨_, rfl⟩
        rw [hnv] at hvn hn3 HLN hk2
        subst hvn
        unfold maxLen at hn4
        have e80 : φ.op = 80 ∨ ((φ.op.toNat : Int) == 80) = false := by
          by_cases h : φ.op = 80
          · exact .inl h
          · exact .inr (byte_no (n := 80) (by decide) h)
        have e69 : φ.op = 69 ∨ ((φ.op.toNat : Int) == 69) = false := by
          by_cases h : φ.op = 69
          · exact .inl h
          · exact .inr (byte_no (n := 69) (by decide) h)
        obtain ⟨OP, hOP⟩ : ∃ o, φ.op = o := ⟨_, rfl⟩
        rw [hOP] at c0 HF h80' h69' e80 e69
        have hqv : qs.length = PS.length := hql.symm
        clear hn5 hLB hPS hnv hOP hnq h80 h69 hql HND HVC HCS HN HVV HT HRES bx hkE lv hn1 hn2
        have cA : (convert 22 9 (.slice (some ⟨wr.heap.size, 0, none⟩) 1 1)).run Tryz.prog (wr.alloc (.cells #[.int .u8 (OP.toNat : Int)] 5)).drew = .ok (.string (txtS [OP])) (wr.alloc (.cells #[.int .u8 (OP.toNat : Int)] 5)).drew := conv_bytes _ _ 1 [OP] (fun j hj => by
          obtain rfl : j = 0 := by simpa using hj
          show (wr.alloc (.cells #[.int .u8 (OP.toNat : Int)] 5)).cell? ⟨wr.heap.size, 0, none⟩ = some (.int .u8 (OP.toNat : Int))
          unfold World.cell?
          rw [heap_alloc_new]; rfl)
        have cB1 : (convert 22 9 (.slice (some ⟨gn, 0, none⟩) nv cn)).run Tryz.prog wr.drew = .ok (.string (txtS LB)) wr.drew := by
          have h := conv_bytes wr.drew gn cn LB HNC.out
          rw [HLN.out] at h
          exact h
        have cB2 : (convert 22 9 (.slice (some ⟨gn, 0, none⟩) nv cn)).run Tryz.prog (wr.alloc (.cells #[.int .u8 (OP.toNat : Int)] 5)).drew = .ok (.string (txtS LB)) (wr.alloc (.cells #[.int .u8 (OP.toNat : Int)] 5)).drew := by
          have h := conv_bytes (wr.alloc (.cells #[.int .u8 (OP.toNat : Int)] 5)).drew gn cn LB (fun j hj => by
            have h1 := (Below.cell ((Below.refl wr.drew.heap.size wr.drew).alloc (Nat.le_refl _) (.cells #[.int .u8 (OP.toNat : Int)] 5)) (World.block_lt_of_cell? _ _ (HNC.out j hj))).trans (HNC.out j hj)
            exact h1)
          rw [HLN.out] at h
          exact h
        have HP2 : Hid (Pn w (wr.alloc (.cells #[.int .u8 (OP.toNat : Int)] 5)).drew m sp rp) := HPM.out.below (((Below.refl wr.heap.size wr).alloc (Nat.le_refl _) _).drew)
        have HOE : Hid (txtS [OP] ++ txtS LB = txtS (OP :: LB)) := by
          show _ = _
          rw [txtS_app]; simp
        have HOS : Hid ((txtS [OP] ++ txtS LB).size ≤ 10) := by
          show _ ≤ _
          rw [ByteArray.size_append, txtS_size, txtS_size, HLN.out]
          first | omega | (simp; done) | (simp; omega)
        have sA : (txtS [OP]).size = 1 := rfl
        have sB : (txtS LB).size ≤ 2 := by rw [txtS_size, HLN.out]; omega
        have key : ∀ b80 b69 : Bool, ((OP.toNat : Int) == 80) = b80 → ((OP.toNat : Int) == 69) = b69 → (b80 = true → sp = none) → (b69 = true → rp = none) → True := fun _ _ _ _ _ _ => trivial
        rcases e80 with h | e80
        · obtain rfl := h80' h
          subst h
          clear h80' h69' e69 key
          replace c0 : wr.cell? ⟨p, 0, none⟩ = some (.int .u8 80) := c0
          have eo : ((80 : UInt8).toNat : Int) = 80 := rfl
          rw [eo] at cA cB2 HP2
          clear eo
          go_wp2_with fail
          refine (HQU.out _ HPM.out.old).mono ?_; rintro e wv ⟨rfl, hwv⟩; rw [← hwv]; clear hwv wv
          go_wp2_with fail
          go_upto_region 28 with fail
          go_cut [16] (fun o wx => ∃ out : ByteArray, o = .string out ∧ out.size ≤ 10 ∧ Hid (out = txtS (80 :: LB)) ∧ Hid (Pn w wx m none rp))
          case first =>
            go_region_with (fail)
            all_goals
              go_wp2_with fail
              go_meet
              exact ⟨_, rfl, HOS.out, HOE.out, HP2.out⟩
          case rest =>
            obtain ⟨out0, rfl, hoz0, HO0', HPW⟩ := hcut
            have c2' := (HPW.out.old.cell (World.block_lt_of_cell? _ _ HC2.out)).trans HC2.out
            clear cA cB1 cB2 HP2 HOE HOS sA sB HNC HLN
            rename_i wr0
            go_wp2_with fail
            go_loopw [154, 16] (fun i o wx => ∃ k : Nat, k ≤ PS.length ∧ i = .int .i64 (k : Int) ∧ ∃ out : ByteArray, o = .string out ∧ out.size ≤ 10 + 16000000 * k ∧ Hid (∃ ψs : List Fm.T, (PS.take k).map (fun f => Fm.putG V f m) = ψs.map some ∧ out = txtS (80 :: LB ++ ψs.flatMap Fm.text)) ∧ Hid (Pn w wx m none rp)) (fun i _ _ => PS.length - (intOf i).toNat)
            case atStart => exact ⟨0, by omega, rfl, _, rfl, by omega, ⟨[], rfl, by rw [HO0'.out]; simp⟩, HPW.out⟩
            case round =>
              obtain ⟨k, hk, rfl, out, rfl, hoz, HPS, HP⟩ := hrel
              by_cases hlt : k < PS.length
              · obtain ⟨gp, rfl, hg0, hg1, hgc⟩ := HPC.out (by omega)
                have hcq : w.cell? ⟨gp, k, none⟩ = some (ptrV (qs.getD k 0)) := by
                  rw [hgc k (by omega)]
                  simp [show k < qs.length by omega]
                have dq := (HP.out.old.cell (p := ⟨gp, k, none⟩) hg1).trans hcq
                have htk := part_at k hlt HTS.out
                obtain ⟨f, hf⟩ : ∃ f, PS[k] = f := ⟨_, rfl⟩
                rw [hf] at htk
                have hmem : f ∈ PS := by rw [← hf]; exact List.getElem_mem hlt
                have HTK : Hid ((PS.take (k + 1)).map (fun f => Fm.putG V f m) = (PS.take k).map (fun f => Fm.putG V f m) ++ [Fm.putG V f m]) := by
                  show _ = _
                  rw [List.take_succ_eq_append_getElem hlt, List.map_append, hf]; rfl
                have HC0 := Lib.hid (HIH.out f hmem F wr (qs.getD k 0) m none rp (htk.below HP.out.old) (HVA.out.below HP.out.old))
                have HSZ1 := Lib.hid (HSZ.out f hmem m)
                have HNO := Lib.hid (HF.out.no f hmem)
                obtain ⟨b0, b1, bx', bl⟩ := HP.out.cells
                have bx0 : wr.cell? ⟨w.heap.size + 1, 0, none⟩ = some (.int .u8 (bAt m 0)) := bx' 0
                have bx1 : wr.cell? ⟨w.heap.size + 1, 1, none⟩ = some (.int .u8 (bAt m 1)) := bx' 1
                have bx2 : wr.cell? ⟨w.heap.size + 1, 2, none⟩ = some (.int .u8 (bAt m 2)) := bx' 2
                have bx3 : wr.cell? ⟨w.heap.size + 1, 3, none⟩ = some (.int .u8 (bAt m 3)) := bx' 3
                have hkI : (k : Int) < (PS.length : Int) := by omega
                have hkq : (k : Int) < (qs.length : Int) := by omega
                unfold arrV arrC c4 ptrV at HC0
                unfold ptrV at dq
                clear hgc hcq htk hf hmem bx'
                generalize qs.getD k 0 = q1 at *
                cases hr : Fm.putG V f m with
                | none =>
                  have HN1 : Hid (putVal RES = .tuple #[.string ByteArray.empty, .bool false]) := by show _ = _; rw [HNO.out hr]; rfl
                  have epv : putVal none = .tuple #[.string ByteArray.empty, .bool false] := rfl
                  rw [hr, epv] at HC0
                  clear hr epv
                  go_wp2_with fail
                  refine HC0.out.mono ?_; rintro e w3 ⟨rfl, hb3⟩
                  have HB3 := Lib.hid (HP.out.old.trans (hb3.mono HP.out.old.size))
                  clear hb3
                  go_wp2_with fail
                  go_ret2
                  exact ⟨congrArg Ending.returned HN1.out.symm, HB3.out⟩
                | some ψ =>
                  have hsz := HSZ1.out ψ hr
                  have epv : putVal (some ψ) = .tuple #[.string (txtS (Fm.text ψ)), .bool true] := rfl
                  rw [hr] at HC0 HTK
                  rw [epv] at HC0
                  clear hr epv
                  have hTz : (txtS (Fm.text ψ)).size ≤ 16000000 := by rw [txtS_size]; exact hsz
                  have HPS2 : Hid (∃ ψs : List Fm.T, (PS.take (k + 1)).map (fun f => Fm.putG V f m) = ψs.map some ∧ out ++ txtS (Fm.text ψ) = txtS (80 :: LB ++ ψs.flatMap Fm.text)) := by
                    obtain ⟨ψs, h1, h2⟩ := HPS.out
                    refine ⟨ψs ++ [ψ], by rw [HTK.out, h1, List.map_append]; rfl, ?_⟩
                    rw [h2, txtS_app]
                    simp
                  clear hsz
                  obtain ⟨T, hT⟩ : ∃ T, txtS (Fm.text ψ) = T := ⟨_, rfl⟩
                  rw [hT] at HC0 hTz HPS2
                  clear hT
                  have hcat : ¬ 9223372036854775807 < out.size + T.size := by omega
                  go_wp2_with fail
                  refine HC0.out.mono ?_; rintro e w3 ⟨rfl, hb3⟩
                  have HP3 := Lib.hid (HP.out.below hb3)
                  clear hb3
                  go_wp2_with fail
                  go_roundw
                  case rel => exact ⟨k + 1, by omega, by go_num, _, rfl, by rw [ByteArray.size_append]; omega, HPS2.out, HP3.out⟩
                  case measure => simp [intOf]; omega
              · have HEND : Hid (∃ ψ, RES = some ψ ∧ out = txtS (Fm.text ψ)) := by
                  obtain ⟨ψs, h1, h2⟩ := HPS.out
                  rw [List.take_of_length_le (by omega)] at h1
                  obtain ⟨ψ, h3, h4⟩ := HF.out.yes ψs h1
                  exact ⟨ψ, h3, by rw [h2, h4]⟩
                obtain ⟨ψ, hψ, ho⟩ := HEND.out
                have HPV : Hid (putVal RES = .tuple #[.string out, .bool true]) := by
                  show _ = _
                  rw [hψ, ho]; rfl
                have HB := Lib.hid HP.out.old
                have hkq : (k : Int) = (qs.length : Int) := by omega
                clear HEND hψ ho
                go_wp2_with fail
                go_ret2
                exact ⟨congrArg Ending.returned HPV.out.symm, HB.out⟩
        · rcases e69 with h | e69
          · obtain rfl := h69' h
            subst h
            clear h80' h69' key
            replace c0 : wr.cell? ⟨p, 0, none⟩ = some (.int .u8 69) := c0
            have eo : ((69 : UInt8).toNat : Int) = 69 := rfl
            rw [eo] at cA cB2 HP2
            clear eo e80
            go_wp2_with fail
            refine (HQU.out _ HPM.out.old).mono ?_; rintro e wv ⟨rfl, hwv⟩; rw [← hwv]; clear hwv wv
            go_wp2_with fail
            go_upto_region 28 with fail
            go_cut [16] (fun o wx => ∃ out : ByteArray, o = .string out ∧ out.size ≤ 10 ∧ Hid (out = txtS (69 :: LB)) ∧ Hid (Pn w wx m sp none))
            case first =>
              go_region_with (fail)
              all_goals
                go_wp2_with fail
                go_meet
                exact ⟨_, rfl, HOS.out, HOE.out, HP2.out⟩
            case rest =>
              obtain ⟨out0, rfl, hoz0, HO0', HPW⟩ := hcut
              have c2' := (HPW.out.old.cell (World.block_lt_of_cell? _ _ HC2.out)).trans HC2.out
              clear cA cB1 cB2 HP2 HOE HOS sA sB HNC HLN
              rename_i wr0
              go_wp2_with fail
              go_loopw [154, 16] (fun i o wx => ∃ k : Nat, k ≤ PS.length ∧ i = .int .i64 (k : Int) ∧ ∃ out : ByteArray, o = .string out ∧ out.size ≤ 10 + 16000000 * k ∧ Hid (∃ ψs : List Fm.T, (PS.take k).map (fun f => Fm.putG V f m) = ψs.map some ∧ out = txtS (69 :: LB ++ ψs.flatMap Fm.text)) ∧ Hid (Pn w wx m sp none)) (fun i _ _ => PS.length - (intOf i).toNat)
              case atStart => exact ⟨0, by omega, rfl, _, rfl, by omega, ⟨[], rfl, by rw [HO0'.out]; simp⟩, HPW.out⟩
              case round =>
                obtain ⟨k, hk, rfl, out, rfl, hoz, HPS, HP⟩ := hrel
                by_cases hlt : k < PS.length
                · obtain ⟨gp, rfl, hg0, hg1, hgc⟩ := HPC.out (by omega)
                  have hcq : w.cell? ⟨gp, k, none⟩ = some (ptrV (qs.getD k 0)) := by
                    rw [hgc k (by omega)]
                    simp [show k < qs.length by omega]
                  have dq := (HP.out.old.cell (p := ⟨gp, k, none⟩) hg1).trans hcq
                  have htk := part_at k hlt HTS.out
                  obtain ⟨f, hf⟩ : ∃ f, PS[k] = f := ⟨_, rfl⟩
                  rw [hf] at htk
                  have hmem : f ∈ PS := by rw [← hf]; exact List.getElem_mem hlt
                  have HTK : Hid ((PS.take (k + 1)).map (fun f => Fm.putG V f m) = (PS.take k).map (fun f => Fm.putG V f m) ++ [Fm.putG V f m]) := by
                    show _ = _
                    rw [List.take_succ_eq_append_getElem hlt, List.map_append, hf]; rfl
                  have HC0 := Lib.hid (HIH.out f hmem F wr (qs.getD k 0) m sp none (htk.below HP.out.old) (HVA.out.below HP.out.old))
                  have HSZ1 := Lib.hid (HSZ.out f hmem m)
                  have HNO := Lib.hid (HF.out.no f hmem)
                  obtain ⟨b0, b1, bx', bl⟩ := HP.out.cells
                  have bx0 : wr.cell? ⟨w.heap.size + 1, 0, none⟩ = some (.int .u8 (bAt m 0)) := bx' 0
                  have bx1 : wr.cell? ⟨w.heap.size + 1, 1, none⟩ = some (.int .u8 (bAt m 1)) := bx' 1
                  have bx2 : wr.cell? ⟨w.heap.size + 1, 2, none⟩ = some (.int .u8 (bAt m 2)) := bx' 2
                  have bx3 : wr.cell? ⟨w.heap.size + 1, 3, none⟩ = some (.int .u8 (bAt m 3)) := bx' 3
                  have hkI : (k : Int) < (PS.length : Int) := by omega
                  have hkq : (k : Int) < (qs.length : Int) := by omega
                  unfold arrV arrC c4 ptrV at HC0
                  unfold ptrV at dq
                  clear hgc hcq htk hf hmem bx'
                  generalize qs.getD k 0 = q1 at *
                  cases hr : Fm.putG V f m with
                  | none =>
                    have HN1 : Hid (putVal RES = .tuple #[.string ByteArray.empty, .bool false]) := by show _ = _; rw [HNO.out hr]; rfl
                    have epv : putVal none = .tuple #[.string ByteArray.empty, .bool false] := rfl
                    rw [hr, epv] at HC0
                    clear hr epv
                    go_wp2_with fail
                    refine HC0.out.mono ?_; rintro e w3 ⟨rfl, hb3⟩
                    have HB3 := Lib.hid (HP.out.old.trans (hb3.mono HP.out.old.size))
                    clear hb3
                    go_wp2_with fail
                    go_ret2
                    exact ⟨congrArg Ending.returned HN1.out.symm, HB3.out⟩
                  | some ψ =>
                    have hsz := HSZ1.out ψ hr
                    have epv : putVal (some ψ) = .tuple #[.string (txtS (Fm.text ψ)), .bool true] := rfl
                    rw [hr] at HC0 HTK
                    rw [epv] at HC0
                    clear hr epv
                    have hTz : (txtS (Fm.text ψ)).size ≤ 16000000 := by rw [txtS_size]; exact hsz
                    have HPS2 : Hid (∃ ψs : List Fm.T, (PS.take (k + 1)).map (fun f => Fm.putG V f m) = ψs.map some ∧ out ++ txtS (Fm.text ψ) = txtS (69 :: LB ++ ψs.flatMap Fm.text)) := by
                      obtain ⟨ψs, h1, h2⟩ := HPS.out
                      refine ⟨ψs ++ [ψ], by rw [HTK.out, h1, List.map_append]; rfl, ?_⟩
                      rw [h2, txtS_app]
                      simp
                    clear hsz
                    obtain ⟨T, hT⟩ : ∃ T, txtS (Fm.text ψ) = T := ⟨_, rfl⟩
                    rw [hT] at HC0 hTz HPS2
                    clear hT
                    have hcat : ¬ 9223372036854775807 < out.size + T.size := by omega
                    go_wp2_with fail
                    refine HC0.out.mono ?_; rintro e w3 ⟨rfl, hb3⟩
                    have HP3 := Lib.hid (HP.out.below hb3)
                    clear hb3
                    go_wp2_with fail
                    go_roundw
                    case rel => exact ⟨k + 1, by omega, by go_num, _, rfl, by rw [ByteArray.size_append]; omega, HPS2.out, HP3.out⟩
                    case measure => simp [intOf]; omega
                · have HEND : Hid (∃ ψ, RES = some ψ ∧ out = txtS (Fm.text ψ)) := by
                    obtain ⟨ψs, h1, h2⟩ := HPS.out
                    rw [List.take_of_length_le (by omega)] at h1
                    obtain ⟨ψ, h3, h4⟩ := HF.out.yes ψs h1
                    exact ⟨ψ, h3, by rw [h2, h4]⟩
                  obtain ⟨ψ, hψ, ho⟩ := HEND.out
                  have HPV : Hid (putVal RES = .tuple #[.string out, .bool true]) := by
                    show _ = _
                    rw [hψ, ho]; rfl
                  have HB := Lib.hid HP.out.old
                  have hkq : (k : Int) = (qs.length : Int) := by omega
                  clear HEND hψ ho
                  go_wp2_with fail
                  go_ret2
                  exact ⟨congrArg Ending.returned HPV.out.symm, HB.out⟩
          · clear h80' h69' key
            go_wp2_with fail
            refine (HQU.out _ HPM.out.old).mono ?_; rintro e wv ⟨rfl, hwv⟩; rw [← hwv]; clear hwv wv
            go_wp2_with fail
            go_upto_region 28 with fail
            go_cut [16] (fun o wx => ∃ out : ByteArray, o = .string out ∧ out.size ≤ 10 ∧ Hid (out = txtS (OP :: LB)) ∧ Hid (Pn w wx m sp rp))
            case first =>
              go_region_with (fail)
              all_goals
                go_wp2_with fail
                go_meet
                exact ⟨_, rfl, HOS.out, HOE.out, HP2.out⟩
            case rest =>
              obtain ⟨out0, rfl, hoz0, HO0', HPW⟩ := hcut
              have c2' := (HPW.out.old.cell (World.block_lt_of_cell? _ _ HC2.out)).trans HC2.out
              clear cA cB1 cB2 HP2 HOE HOS sA sB HNC HLN
              rename_i wr0
              go_wp2_with fail
              go_loopw [154, 16] (fun i o wx => ∃ k : Nat, k ≤ PS.length ∧ i = .int .i64 (k : Int) ∧ ∃ out : ByteArray, o = .string out ∧ out.size ≤ 10 + 16000000 * k ∧ Hid (∃ ψs : List Fm.T, (PS.take k).map (fun f => Fm.putG V f m) = ψs.map some ∧ out = txtS (OP :: LB ++ ψs.flatMap Fm.text)) ∧ Hid (Pn w wx m sp rp)) (fun i _ _ => PS.length - (intOf i).toNat)
              case atStart => exact ⟨0, by omega, rfl, _, rfl, by omega, ⟨[], rfl, by rw [HO0'.out]; simp⟩, HPW.out⟩
              case round =>
                obtain ⟨k, hk, rfl, out, rfl, hoz, HPS, HP⟩ := hrel
                by_cases hlt : k < PS.length
                · obtain ⟨gp, rfl, hg0, hg1, hgc⟩ := HPC.out (by omega)
                  have hcq : w.cell? ⟨gp, k, none⟩ = some (ptrV (qs.getD k 0)) := by
                    rw [hgc k (by omega)]
                    simp [show k < qs.length by omega]
                  have dq := (HP.out.old.cell (p := ⟨gp, k, none⟩) hg1).trans hcq
                  have htk := part_at k hlt HTS.out
                  obtain ⟨f, hf⟩ : ∃ f, PS[k] = f := ⟨_, rfl⟩
                  rw [hf] at htk
                  have hmem : f ∈ PS := by rw [← hf]; exact List.getElem_mem hlt
                  have HTK : Hid ((PS.take (k + 1)).map (fun f => Fm.putG V f m) = (PS.take k).map (fun f => Fm.putG V f m) ++ [Fm.putG V f m]) := by
                    show _ = _
                    rw [List.take_succ_eq_append_getElem hlt, List.map_append, hf]; rfl
                  have HC0 := Lib.hid (HIH.out f hmem F wr (qs.getD k 0) m sp rp (htk.below HP.out.old) (HVA.out.below HP.out.old))
                  have HSZ1 := Lib.hid (HSZ.out f hmem m)
                  have HNO := Lib.hid (HF.out.no f hmem)
                  obtain ⟨b0, b1, bx', bl⟩ := HP.out.cells
                  have bx0 : wr.cell? ⟨w.heap.size + 1, 0, none⟩ = some (.int .u8 (bAt m 0)) := bx' 0
                  have bx1 : wr.cell? ⟨w.heap.size + 1, 1, none⟩ = some (.int .u8 (bAt m 1)) := bx' 1
                  have bx2 : wr.cell? ⟨w.heap.size + 1, 2, none⟩ = some (.int .u8 (bAt m 2)) := bx' 2
                  have bx3 : wr.cell? ⟨w.heap.size + 1, 3, none⟩ = some (.int .u8 (bAt m 3)) := bx' 3
                  have hkI : (k : Int) < (PS.length : Int) := by omega
                  have hkq : (k : Int) < (qs.length : Int) := by omega
                  unfold arrV arrC c4 ptrV at HC0
                  unfold ptrV at dq
                  clear hgc hcq htk hf hmem bx'
                  generalize qs.getD k 0 = q1 at *
                  cases hr : Fm.putG V f m with
                  | none =>
                    have HN1 : Hid (putVal RES = .tuple #[.string ByteArray.empty, .bool false]) := by show _ = _; rw [HNO.out hr]; rfl
                    have epv : putVal none = .tuple #[.string ByteArray.empty, .bool false] := rfl
                    rw [hr, epv] at HC0
                    clear hr epv
                    go_wp2_with fail
                    refine HC0.out.mono ?_; rintro e w3 ⟨rfl, hb3⟩
                    have HB3 := Lib.hid (HP.out.old.trans (hb3.mono HP.out.old.size))
                    clear hb3
                    go_wp2_with fail
                    go_ret2
                    exact ⟨congrArg Ending.returned HN1.out.symm, HB3.out⟩
                  | some ψ =>
                    have hsz := HSZ1.out ψ hr
                    have epv : putVal (some ψ) = .tuple #[.string (txtS (Fm.text ψ)), .bool true] := rfl
                    rw [hr] at HC0 HTK
                    rw [epv] at HC0
                    clear hr epv
                    have hTz : (txtS (Fm.text ψ)).size ≤ 16000000 := by rw [txtS_size]; exact hsz
                    have HPS2 : Hid (∃ ψs : List Fm.T, (PS.take (k + 1)).map (fun f => Fm.putG V f m) = ψs.map some ∧ out ++ txtS (Fm.text ψ) = txtS (OP :: LB ++ ψs.flatMap Fm.text)) := by
                      obtain ⟨ψs, h1, h2⟩ := HPS.out
                      refine ⟨ψs ++ [ψ], by rw [HTK.out, h1, List.map_append]; rfl, ?_⟩
                      rw [h2, txtS_app]
                      simp
                    clear hsz
                    obtain ⟨T, hT⟩ : ∃ T, txtS (Fm.text ψ) = T := ⟨_, rfl⟩
                    rw [hT] at HC0 hTz HPS2
                    clear hT
                    have hcat : ¬ 9223372036854775807 < out.size + T.size := by omega
                    go_wp2_with fail
                    refine HC0.out.mono ?_; rintro e w3 ⟨rfl, hb3⟩
                    have HP3 := Lib.hid (HP.out.below hb3)
                    clear hb3
                    go_wp2_with fail
                    go_roundw
                    case rel => exact ⟨k + 1, by omega, by go_num, _, rfl, by rw [ByteArray.size_append]; omega, HPS2.out, HP3.out⟩
                    case measure => simp [intOf]; omega
                · have HEND : Hid (∃ ψ, RES = some ψ ∧ out = txtS (Fm.text ψ)) := by
                    obtain ⟨ψs, h1, h2⟩ := HPS.out
                    rw [List.take_of_length_le (by omega)] at h1
                    obtain ⟨ψ, h3, h4⟩ := HF.out.yes ψs h1
                    exact ⟨ψ, h3, by rw [h2, h4]⟩
                  obtain ⟨ψ, hψ, ho⟩ := HEND.out
                  have HPV : Hid (putVal RES = .tuple #[.string out, .bool true]) := by
                    show _ = _
                    rw [hψ, ho]; rfl
                  have HB := Lib.hid HP.out.old
                  have hkq : (k : Int) = (qs.length : Int) := by omega
                  clear HEND hψ ho
                  go_wp2_with fail
                  go_ret2
                  exact ⟨congrArg Ending.returned HPV.out.symm, HB.out⟩
      · have HF : Hid (∀ u', Fm.fresh x (Fm.free f) m = some u' → Fm.PutFacts V [f] (Fm.fput m x u') (q.byte :: [Fm.vb u']) RES) := fun u' h => by
          have h := Fm.facts_qu (V := V) m q x u' f h
          rw [HRES.out] at h
          exact h
        have HNF : Hid (Fm.fresh x (Fm.free f) m = none → putVal RES = .tuple #[.string ByteArray.empty, .bool false]) := fun h => by
          have e : RES = none := by rw [← HRES.out]; exact Fm.putG_qu_none h
          rw [e]; rfl
        have HQU : Hid (∀ W, Below w.heap.size w W → Calls Tryz.prog 67 #[.pointer (some ⟨p, 0, none⟩)] W fun e w' => e = .returned (.bool true) ∧ W = w') := fun W hb => by
          have h := quant_any W (HND.out.kept (F' := F) (fun b _ hl => hb.block b hl) (fun _ h => h))
          have e : Fm.isQu (Fm.T.qu q x f).op = true := by show Fm.isQu q.byte = true; unfold Fm.isQu; rw [Fm.quOf_byte]; rfl
          rw [e] at h
          exact h
        obtain ⟨gv, rfl, hFv, hgv, hgvc⟩ := HVC.out (by simp [Fm.T.vs])
        have hv0 : w.cell? ⟨gv, 0, none⟩ = some (.int .u8 ((97 + x.val : Nat) : Int)) := hgvc 0 (by simp [Fm.T.vs])
        obtain ⟨q0, rfl⟩ : ∃ q0, qs = [q0] := by
          match qs, hql with
          | [q0], _ => exact ⟨q0, rfl⟩
        obtain ⟨gp0, rfl, hFp, hgp0, hgpc⟩ := HPC.out (by simp)
        have hp0 : w.cell? ⟨gp0, 0, none⟩ = some (ptrV q0) := hgpc 0 (by simp)
        have htf : Tree F w f q0 := HTS.out.1
        obtain ⟨v1, u1, qs1, nd1, _⟩ := htf.node
        have hf0 := nd1.cells.2.2.2.1
        have hfr := Fm.free_lt f
        have HOLD : Hid (w.cell? ⟨p, 1, none⟩ = some (.slice (some ⟨gv, 0, none⟩) 1 cv) ∧ w.cell? ⟨p, 2, none⟩ = some (.slice (some ⟨gp0, 0, none⟩) 1 cp) ∧ w.cell? ⟨gv, 0, none⟩ = some (.int .u8 ((97 + x.val : Nat) : Int)) ∧ w.cell? ⟨gp0, 0, none⟩ = some (.pointer (some ⟨q0, 0, none⟩)) ∧ w.cell? ⟨q0, 3, none⟩ = some (.int .i64 ((Fm.free f : Nat) : Int))) :=
          ⟨HCS.out.2.1, HCS.out.2.2.1, hv0, hp0, hf0⟩
        clear nd1 htf hgvc hgpc hFv hFp hgv hgp0 hv0 hp0 hf0
        obtain ⟨fr, hfe⟩ : ∃ fr, Fm.free f = fr := ⟨_, rfl⟩
        rw [hfe] at HF HNF HOLD hfr
        clear hfe
        obtain ⟨z, hz⟩ : ∃ z : Int, ((97 + x.val : Nat) : Int) = z := ⟨_, rfl⟩
        have HZ := Lib.hid hz
        rw [hz] at HOLD
        clear hz
        have hzr : 97 ≤ z ∧ z ≤ 100 := by have := HZ.out; omega
        have OC : Hid (∀ W, Below w.heap.size w W → W.cell? ⟨p, 1, none⟩ = some (.slice (some ⟨gv, 0, none⟩) 1 cv) ∧ W.cell? ⟨p, 2, none⟩ = some (.slice (some ⟨gp0, 0, none⟩) 1 cp) ∧ W.cell? ⟨gv, 0, none⟩ = some (.int .u8 z) ∧ W.cell? ⟨gp0, 0, none⟩ = some (.pointer (some ⟨q0, 0, none⟩)) ∧ W.cell? ⟨q0, 3, none⟩ = some (.int .i64 (fr : Int))) := fun W hb =>
          ⟨(hb.cell (World.block_lt_of_cell? _ _ HOLD.out.1)).trans HOLD.out.1, (hb.cell (World.block_lt_of_cell? _ _ HOLD.out.2.1)).trans HOLD.out.2.1, (hb.cell (World.block_lt_of_cell? _ _ HOLD.out.2.2.1)).trans HOLD.out.2.2.1, (hb.cell (World.block_lt_of_cell? _ _ HOLD.out.2.2.2.1)).trans HOLD.out.2.2.2.1, (hb.cell (World.block_lt_of_cell? _ _ HOLD.out.2.2.2.2)).trans HOLD.out.2.2.2.2⟩
        have e80 : ((q.byte.toNat : Int) == 80) = false := by cases q <;> rfl
        have e69 : ((q.byte.toNat : Int) == 69) = false := by cases q <;> rfl
        replace c0 : wr.cell? ⟨p, 0, none⟩ = some (.int .u8 (q.byte.toNat : Int)) := c0
        have HPM0 := Lib.hid HN.out.2
        obtain ⟨o1, o2, o3, o4, o5⟩ := OC.out wr HPM0.out.old
        obtain ⟨x12, hx12⟩ : ∃ n, wr.heap.size = n := ⟨_, rfl⟩
        have HTK0 : Hid (Tk w (wr.alloc (.cells #[.bool false, .bool false, .bool false, .bool false] 160)) m sp rp x12 fr x 0) :=
          ⟨by rw [← hx12]; exact heap_alloc_new wr _, HPM0.out.below ((Below.refl _ _).alloc (Nat.le_refl _) _), by rw [← hx12]; exact HPM0.out.size⟩
        have HX12 := Lib.hid hx12
        clear HN bx hx12 hkE
        go_wp2_with fail
        refine (HQU.out _ HPM0.out.old).mono ?_; rintro e wv ⟨rfl, hwv⟩; rw [← hwv]; clear hwv wv
        go_wp2_with fail
        rw [HX12.out]
        rename_i wr0
        go_loopw [93] (fun i wx => (i = .int .i64 0 ∧ Hid (Tk w wx m sp rp x12 fr x 0)) ∨ (i = .int .i64 1 ∧ Hid (Tk w wx m sp rp x12 fr x 1)) ∨ (i = .int .i64 2 ∧ Hid (Tk w wx m sp rp x12 fr x 2)) ∨ (i = .int .i64 3 ∧ Hid (Tk w wx m sp rp x12 fr x 3)) ∨ (i = .int .i64 4 ∧ Hid (Tk w wx m sp rp x12 fr x 4))) (fun i _ => 4 - (intOf i).toNat)
        case atStart => exact .inl ⟨rfl, HTK0.out⟩
        case round =>
          rcases hrel with ⟨rfl, HTK⟩ | ⟨rfl, HTK⟩ | ⟨rfl, HTK⟩ | ⟨rfl, HTK⟩ | ⟨rfl, HTK⟩
          all_goals obtain ⟨o1, o2, o3, o4, o5⟩ := OC.out wr HTK.out.pn.old
          · have hix : wr.cell? ⟨w.heap.size + 1, 0, none⟩ = some (.int .u8 (bAt m 0)) := HTK.out.pn.cells.2.2.1 0
            have hie := bAt_sub m 0
            have hif := c4_cell HTK.out.tk (m 0)
            have hig := c4_frozen HTK.out.tk (m 0).val
            have hi4 : ((m 0).val : Int) < 4 ∧ (0 : Int) ≤ ((m 0).val : Int) := by have := (m 0).isLt; omega
            have HST : Hid (fr / 2 ^ 0 % 2 = 1 → ¬ x.val = 0 → Tk w (wr.setCell ⟨x12, (m 0).val, none⟩ (.bool true)) m sp rp x12 fr x (0 + 1)) := fun h1 h2 => HTK.out.store (by decide) h1 h2
            rcases put_bits fr 1 hfr with ⟨hb, hb2⟩ | ⟨hb, hb2⟩
            · have hb : bits .and .i64 (fr : Int) 1 = 0 := by simpa using hb
              have HK1 := Lib.hid (HTK.out.keep (.inl (by simpa using hb2)))
              clear hb2 hif hig hix hie HST
              go_wp2_with fail
              go_roundw
              case rel => exact .inr (.inl ⟨rfl, HK1.out⟩)
              case measure => simp [intOf]
            · have hb : bits .and .i64 (fr : Int) 1 = 1 := by simpa using hb
              by_cases hxi : x.val = 0
              · have HK1 := Lib.hid (HTK.out.keep (.inr hxi))
                have hz : ((97 : Int) == z) = true := by rw [← HZ.out, hxi]; rfl
                clear hb2 hif hig hix hie HST hxi
                go_wp2_with fail
                go_roundw
                case rel => exact .inr (.inl ⟨rfl, HK1.out⟩)
                case measure => simp [intOf]
              · have HK1 := Lib.hid (HST.out (by simpa using hb2) hxi)
                have hz : ((97 : Int) == z) = false := by
                  rw [← HZ.out]
                  simp; omega
                clear hb2 HST hxi
                generalize bAt m 0 = y at *
                generalize (m 0).val = my at *
                go_wp2_with fail
                go_roundw
                case rel => exact .inr (.inl ⟨rfl, HK1.out⟩)
                case measure => simp [intOf]
          · have hix : wr.cell? ⟨w.heap.size + 1, 1, none⟩ = some (.int .u8 (bAt m 1)) := HTK.out.pn.cells.2.2.1 1
            have hie := bAt_sub m 1
            have hif := c4_cell HTK.out.tk (m 1)
            have hig := c4_frozen HTK.out.tk (m 1).val
            have hi4 : ((m 1).val : Int) < 4 ∧ (0 : Int) ≤ ((m 1).val : Int) := by have := (m 1).isLt; omega
            have HST : Hid (fr / 2 ^ 1 % 2 = 1 → ¬ x.val = 1 → Tk w (wr.setCell ⟨x12, (m 1).val, none⟩ (.bool true)) m sp rp x12 fr x (1 + 1)) := fun h1 h2 => HTK.out.store (by decide) h1 h2
            rcases put_bits fr 2 hfr with ⟨hb, hb2⟩ | ⟨hb, hb2⟩
            · have hb : bits .and .i64 ((fr : Int) / 2) 1 = 0 := by simpa using hb
              have HK1 := Lib.hid (HTK.out.keep (.inl (by simpa using hb2)))
              clear hb2 hif hig hix hie HST
              go_wp2_with fail
              go_roundw
              case rel => exact .inr (.inr (.inl ⟨rfl, HK1.out⟩))
              case measure => simp [intOf]
            · have hb : bits .and .i64 ((fr : Int) / 2) 1 = 1 := by simpa using hb
              by_cases hxi : x.val = 1
              · have HK1 := Lib.hid (HTK.out.keep (.inr hxi))
                have hz : ((98 : Int) == z) = true := by rw [← HZ.out, hxi]; rfl
                clear hb2 hif hig hix hie HST hxi
                go_wp2_with fail
                go_roundw
                case rel => exact .inr (.inr (.inl ⟨rfl, HK1.out⟩))
                case measure => simp [intOf]
              · have HK1 := Lib.hid (HST.out (by simpa using hb2) hxi)
                have hz : ((98 : Int) == z) = false := by
                  rw [← HZ.out]
                  simp; omega
                clear hb2 HST hxi
                generalize bAt m 1 = y at *
                generalize (m 1).val = my at *
                go_wp2_with fail
                go_roundw
                case rel => exact .inr (.inr (.inl ⟨rfl, HK1.out⟩))
                case measure => simp [intOf]
          · have hix : wr.cell? ⟨w.heap.size + 1, 2, none⟩ = some (.int .u8 (bAt m 2)) := HTK.out.pn.cells.2.2.1 2
            have hie := bAt_sub m 2
            have hif := c4_cell HTK.out.tk (m 2)
            have hig := c4_frozen HTK.out.tk (m 2).val
            have hi4 : ((m 2).val : Int) < 4 ∧ (0 : Int) ≤ ((m 2).val : Int) := by have := (m 2).isLt; omega
            have HST : Hid (fr / 2 ^ 2 % 2 = 1 → ¬ x.val = 2 → Tk w (wr.setCell ⟨x12, (m 2).val, none⟩ (.bool true)) m sp rp x12 fr x (2 + 1)) := fun h1 h2 => HTK.out.store (by decide) h1 h2
            rcases put_bits fr 4 hfr with ⟨hb, hb2⟩ | ⟨hb, hb2⟩
            · have hb : bits .and .i64 ((fr : Int) / 4) 1 = 0 := by simpa using hb
              have HK1 := Lib.hid (HTK.out.keep (.inl (by simpa using hb2)))
              clear hb2 hif hig hix hie HST
              go_wp2_with fail
              go_roundw
              case rel => exact .inr (.inr (.inr (.inl ⟨rfl, HK1.out⟩)))
              case measure => simp [intOf]
            · have hb : bits .and .i64 ((fr : Int) / 4) 1 = 1 := by simpa using hb
              by_cases hxi : x.val = 2
              · have HK1 := Lib.hid (HTK.out.keep (.inr hxi))
                have hz : ((99 : Int) == z) = true := by rw [← HZ.out, hxi]; rfl
                clear hb2 hif hig hix hie HST hxi
                go_wp2_with fail
                go_roundw
                case rel => exact .inr (.inr (.inr (.inl ⟨rfl, HK1.out⟩)))
                case measure => simp [intOf]
              · have HK1 := Lib.hid (HST.out (by simpa using hb2) hxi)
                have hz : ((99 : Int) == z) = false := by
                  rw [← HZ.out]
                  simp; omega
                clear hb2 HST hxi
                generalize bAt m 2 = y at *
                generalize (m 2).val = my at *
                go_wp2_with fail
                go_roundw
                case rel => exact .inr (.inr (.inr (.inl ⟨rfl, HK1.out⟩)))
                case measure => simp [intOf]
          · have hix : wr.cell? ⟨w.heap.size + 1, 3, none⟩ = some (.int .u8 (bAt m 3)) := HTK.out.pn.cells.2.2.1 3
            have hie := bAt_sub m 3
            have hif := c4_cell HTK.out.tk (m 3)
            have hig := c4_frozen HTK.out.tk (m 3).val
            have hi4 : ((m 3).val : Int) < 4 ∧ (0 : Int) ≤ ((m 3).val : Int) := by have := (m 3).isLt; omega
            have HST : Hid (fr / 2 ^ 3 % 2 = 1 → ¬ x.val = 3 → Tk w (wr.setCell ⟨x12, (m 3).val, none⟩ (.bool true)) m sp rp x12 fr x (3 + 1)) := fun h1 h2 => HTK.out.store (by decide) h1 h2
            rcases put_bits fr 8 hfr with ⟨hb, hb2⟩ | ⟨hb, hb2⟩
            · have hb : bits .and .i64 ((fr : Int) / 8) 1 = 0 := by simpa using hb
              have HK1 := Lib.hid (HTK.out.keep (.inl (by simpa using hb2)))
              clear hb2 hif hig hix hie HST
              go_wp2_with fail
              go_roundw
              case rel => exact .inr (.inr (.inr (.inr (⟨rfl, HK1.out⟩))))
              case measure => simp [intOf]
            · have hb : bits .and .i64 ((fr : Int) / 8) 1 = 1 := by simpa using hb
              by_cases hxi : x.val = 3
              · have HK1 := Lib.hid (HTK.out.keep (.inr hxi))
                have hz : ((100 : Int) == z) = true := by rw [← HZ.out, hxi]; rfl
                clear hb2 hif hig hix hie HST hxi
                go_wp2_with fail
                go_roundw
                case rel => exact .inr (.inr (.inr (.inr (⟨rfl, HK1.out⟩))))
                case measure => simp [intOf]
              · have HK1 := Lib.hid (HST.out (by simpa using hb2) hxi)
                have hz : ((100 : Int) == z) = false := by
                  rw [← HZ.out]
                  simp; omega
                clear hb2 HST hxi
                generalize bAt m 3 = y at *
                generalize (m 3).val = my at *
                go_wp2_with fail
                go_roundw
                case rel => exact .inr (.inr (.inr (.inr (⟨rfl, HK1.out⟩))))
                case measure => simp [intOf]
          · have HTE := HTK
            have hcl := c4_cell HTK.out.tk x
            simp only [Fm.tkTo_four] at hcl
            have htk4 := HTK.out.tk
            simp only [Fm.tkTo_four] at htk4
            have HIX := Lib.hid (index_bools (Fm.taken fr m x) x12 _ wr htk4)
            have e1 : IntKind.u8.wrap (z - 97) = (x.val : Int) := by rw [← HZ.out]; exact vb_sub2 x
            have hx4 : (x.val : Int) < 4 ∧ (0 : Int) ≤ (x.val : Int) := by have := x.isLt; omega
            clear HTK HTK0 HQU HX12 HPM0 HND HVC
            cases ht : Fm.taken fr m x x
            · rw [ht] at hcl
              obtain ⟨zu, rfl⟩ : ∃ y, y = z := ⟨_, rfl⟩
              have HZU := HZ
              clear HIX
              have HF2 := Lib.hid (HF.out x (Fm.fresh_kept ht))
              have hpv1 := HTE.out.pn.setv x x
              rw [HZU.out] at hpv1
              have HPV1 := Lib.hid hpv1
              obtain ⟨W28, hW28⟩ : ∃ W28, (wr.setCell ⟨w.heap.size + 1, x.val, none⟩ (.int .u8 zu)).alloc (.cells #[.int .u8 zu] 5) = W28 := ⟨_, rfl⟩
              have HPM2 : Hid (Pn w W28 (Fm.fput m x x) sp rp ∧ W28.cell? ⟨wr.heap.size, 0, none⟩ = some (.int .u8 zu)) := by
                rw [← hW28]
                refine ⟨HPV1.out.below ((Below.refl _ _).alloc (Nat.le_refl _) _), ?_⟩
                have e : (wr.setCell ⟨w.heap.size + 1, x.val, none⟩ (.int .u8 zu)).heap.size = wr.heap.size := by simp [World.setCell]
                have h := heap_alloc_new (wr.setCell ⟨w.heap.size + 1, x.val, none⟩ (.int .u8 zu)) (.cells #[.int .u8 zu] 5)
                rw [e] at h
                unfold World.cell?
                rw [h]; rfl
              have HNC : Hid (∀ j (hj : j < [Fm.vb x].length), W28.drew.cell? ⟨wr.heap.size, j, none⟩ = some (.int .u8 (([Fm.vb x][j]).toNat : Int))) := fun j hj => by
                obtain rfl : j = 0 := by simpa using hj
                have e : W28.drew.cell? ⟨wr.heap.size, 0, none⟩ = W28.cell? ⟨wr.heap.size, 0, none⟩ := rfl
                have e2 : zu = ((Fm.vb x).toNat : Int) := by rw [← HZU.out, vb_nat]; omega
                rw [e, HPM2.out.2, e2]; rfl
              have HLN : Hid ([Fm.vb x].length = 1) := rfl
              have HPM := Lib.hid HPM2.out.1
              have hkk : (1 : Nat) ≤ 2 := by omega
              have cc0 : W28.cell? ⟨p, 0, none⟩ = some (.int .u8 (q.byte.toNat : Int)) := (HPM.out.old.cell (World.block_lt_of_cell? _ _ HCS.out.1)).trans HCS.out.1
              have HW28 := Lib.hid hW28
              have HC2 : Hid (w.cell? ⟨p, 2, none⟩ = some (.slice (some ⟨gp0, 0, none⟩) [q0].length cp)) := HOLD.out.2.1
              obtain ⟨PS, hPS⟩ : ∃ l, [f] = l := ⟨_, rfl⟩
              obtain ⟨qs, hqs⟩ : ∃ l, [q0] = l := ⟨_, rfl⟩
              have hq2 : PS.length ≤ 2 := by rw [← hPS]; simp
              have hqv : qs.length = PS.length := by rw [← hPS, ← hqs]; rfl
              replace HTS : Hid (Trees F w PS qs) := by rw [← hPS, ← hqs]; exact HTS.out
              replace HIH : Hid (∀ g ∈ PS, PutOK V g) := by rw [← hPS]; exact HIH.out
              replace HSZ : Hid (∀ g ∈ PS, ∀ m' ψ, Fm.putG V g m' = some ψ → (Fm.text ψ).length ≤ 16000000) := by rw [← hPS]; exact HSZ.out
              replace HF : Hid (Fm.PutFacts V PS (Fm.fput m x x) (q.byte :: [Fm.vb x]) RES) := by rw [← hPS]; exact HF2.out
              replace HPC : Hid (0 < qs.length → ∃ g, (some ⟨gp0, 0, none⟩ : Option Addr) = some ⟨g, 0, none⟩ ∧ F g ∧ g < w.heap.size ∧ ∀ j, j < qs.length → w.cell? ⟨g, j, none⟩ = (qs.map ptrV)[j]?) := by rw [← hqs]; exact HPC.out
              rw [hqs] at HC2
              obtain ⟨ap, hap⟩ : ∃ a : Option Addr, (some ⟨gp0, 0, none⟩ : Option Addr) = a := ⟨_, rfl⟩
              rw [hap] at HC2 HPC
              clear hap
              have hlp : qs.length ≤ cp := by rw [← hqs]; exact lp
              have HAF : Hid (wr.frozen? ⟨w.heap.size + 1, x.val, none⟩ = false ∧ wr.cell? ⟨w.heap.size + 1, x.val, none⟩ = some (.int .u8 (bAt m x))) := ⟨c4_frozen HTE.out.pn.arr x.val, c4_cell HTE.out.pn.arr x⟩
              have afr := HAF.out.1
              have acl := HAF.out.2
              clear hW28 hPS hqs HF2 HPV1 hpv1 HPM2 lp
              generalize bAt m x = bmx at *
              skip
              go_upto_region 28 with fail
              rw [HW28.out]
              clear afr acl e1 hcl htk4 c0 o1 o2 o3 o4 o5
              obtain ⟨QB, hQB⟩ : ∃ b, q.byte = b := ⟨_, rfl⟩
              rw [hQB] at cc0 HF
              clear hQB
              have c0 := cc0
              clear cc0
              have cA : (convert 22 9 (.slice (some ⟨W28.heap.size, 0, none⟩) 1 1)).run Tryz.prog (W28.alloc (.cells #[.int .u8 (QB.toNat : Int)] 5)).drew = .ok (.string (txtS [QB])) (W28.alloc (.cells #[.int .u8 (QB.toNat : Int)] 5)).drew := conv_bytes _ _ 1 [QB] (fun j hj => by
                obtain rfl : j = 0 := by simpa using hj
                show (W28.alloc (.cells #[.int .u8 (QB.toNat : Int)] 5)).cell? ⟨W28.heap.size, 0, none⟩ = some (.int .u8 (QB.toNat : Int))
                unfold World.cell?
                rw [heap_alloc_new]; rfl)
              have cB1 : (convert 22 9 (.slice (some ⟨wr.heap.size, 0, none⟩) 1 1)).run Tryz.prog W28.drew = .ok (.string (txtS [Fm.vb x])) W28.drew := by
                have h := conv_bytes W28.drew wr.heap.size 1 [Fm.vb x] HNC.out
                rw [HLN.out] at h
                exact h
              have cB2 : (convert 22 9 (.slice (some ⟨wr.heap.size, 0, none⟩) 1 1)).run Tryz.prog (W28.alloc (.cells #[.int .u8 (QB.toNat : Int)] 5)).drew = .ok (.string (txtS [Fm.vb x])) (W28.alloc (.cells #[.int .u8 (QB.toNat : Int)] 5)).drew := by
                have h := conv_bytes (W28.alloc (.cells #[.int .u8 (QB.toNat : Int)] 5)).drew wr.heap.size 1 [Fm.vb x] (fun j hj => by
                  have h1 := (Below.cell ((Below.refl W28.drew.heap.size W28.drew).alloc (Nat.le_refl _) (.cells #[.int .u8 (QB.toNat : Int)] 5)) (World.block_lt_of_cell? _ _ (HNC.out j hj))).trans (HNC.out j hj)
                  exact h1)
                rw [HLN.out] at h
                exact h
              have HP2 : Hid (Pn w (W28.alloc (.cells #[.int .u8 (QB.toNat : Int)] 5)).drew (Fm.fput m x x) sp rp) := HPM.out.below (((Below.refl W28.heap.size W28).alloc (Nat.le_refl _) _).drew)
              have HOE : Hid (txtS [QB] ++ txtS [Fm.vb x] = txtS (QB :: [Fm.vb x])) := by
                show _ = _
                rw [txtS_app]; simp
              have HOS : Hid ((txtS [QB] ++ txtS [Fm.vb x]).size ≤ 10) := by
                show _ ≤ _
                rw [ByteArray.size_append, txtS_size, txtS_size, HLN.out]
                first | omega | (simp; done) | (simp; omega)
              have sA : (txtS [QB]).size = 1 := rfl
              have sB : (txtS [Fm.vb x]).size ≤ 2 := by rw [txtS_size, HLN.out]; omega
              go_cut [16] (fun o wx => ∃ out : ByteArray, o = .string out ∧ out.size ≤ 10 ∧ Hid (out = txtS (QB :: [Fm.vb x])) ∧ Hid (Pn w wx (Fm.fput m x x) sp rp))
              case first =>
                go_region_with (fail)
                all_goals
                  go_wp2_with fail
                  go_meet
                  exact ⟨_, rfl, HOS.out, HOE.out, HP2.out⟩
              case rest =>
                obtain ⟨out0, rfl, hoz0, HO0', HPW⟩ := hcut
                have c2' := (HPW.out.old.cell (World.block_lt_of_cell? _ _ HC2.out)).trans HC2.out
                clear cA cB1 cB2 HP2 HOE HOS sA sB HNC HLN
                rename_i wr0
                go_wp2_with fail
                go_loopw [154, 16] (fun i o wx => ∃ k : Nat, k ≤ PS.length ∧ i = .int .i64 (k : Int) ∧ ∃ out : ByteArray, o = .string out ∧ out.size ≤ 10 + 16000000 * k ∧ Hid (∃ ψs : List Fm.T, (PS.take k).map (fun f => Fm.putG V f (Fm.fput m x x)) = ψs.map some ∧ out = txtS (QB :: [Fm.vb x] ++ ψs.flatMap Fm.text)) ∧ Hid (Pn w wx (Fm.fput m x x) sp rp)) (fun i _ _ => PS.length - (intOf i).toNat)
                case atStart => exact ⟨0, by omega, rfl, _, rfl, by omega, ⟨[], rfl, by rw [HO0'.out]; simp⟩, HPW.out⟩
                case round =>
                  obtain ⟨k, hk, rfl, out, rfl, hoz, HPS, HP⟩ := hrel
                  by_cases hlt : k < PS.length
                  · obtain ⟨gp, rfl, hg0, hg1, hgc⟩ := HPC.out (by omega)
                    have hcq : w.cell? ⟨gp, k, none⟩ = some (ptrV (qs.getD k 0)) := by
                      rw [hgc k (by omega)]
                      simp [show k < qs.length by omega]
                    have dq := (HP.out.old.cell (p := ⟨gp, k, none⟩) hg1).trans hcq
                    have htk := part_at k hlt HTS.out
                    obtain ⟨f, hf⟩ : ∃ f, PS[k] = f := ⟨_, rfl⟩
                    rw [hf] at htk
                    have hmem : f ∈ PS := by rw [← hf]; exact List.getElem_mem hlt
                    have HTK : Hid ((PS.take (k + 1)).map (fun f => Fm.putG V f (Fm.fput m x x)) = (PS.take k).map (fun f => Fm.putG V f (Fm.fput m x x)) ++ [Fm.putG V f (Fm.fput m x x)]) := by
                      show _ = _
                      rw [List.take_succ_eq_append_getElem hlt, List.map_append, hf]; rfl
                    have HC0 := Lib.hid (HIH.out f hmem F wr (qs.getD k 0) (Fm.fput m x x) sp rp (htk.below HP.out.old) (HVA.out.below HP.out.old))
                    have HSZ1 := Lib.hid (HSZ.out f hmem (Fm.fput m x x))
                    have HNO := Lib.hid (HF.out.no f hmem)
                    obtain ⟨b0, b1, bx', bl⟩ := HP.out.cells
                    have bx0 : wr.cell? ⟨w.heap.size + 1, 0, none⟩ = some (.int .u8 (bAt (Fm.fput m x x) 0)) := bx' 0
                    have bx1 : wr.cell? ⟨w.heap.size + 1, 1, none⟩ = some (.int .u8 (bAt (Fm.fput m x x) 1)) := bx' 1
                    have bx2 : wr.cell? ⟨w.heap.size + 1, 2, none⟩ = some (.int .u8 (bAt (Fm.fput m x x) 2)) := bx' 2
                    have bx3 : wr.cell? ⟨w.heap.size + 1, 3, none⟩ = some (.int .u8 (bAt (Fm.fput m x x) 3)) := bx' 3
                    have hkI : (k : Int) < (PS.length : Int) := by omega
                    have hkq : (k : Int) < (qs.length : Int) := by omega
                    unfold arrV arrC c4 ptrV at HC0
                    unfold ptrV at dq
                    clear hgc hcq htk hf hmem bx'
                    generalize qs.getD k 0 = q1 at *
                    cases hr : Fm.putG V f (Fm.fput m x x) with
                    | none =>
                      have HN1 : Hid (putVal RES = .tuple #[.string ByteArray.empty, .bool false]) := by show _ = _; rw [HNO.out hr]; rfl
                      have epv : putVal none = .tuple #[.string ByteArray.empty, .bool false] := rfl
                      rw [hr, epv] at HC0
                      clear hr epv
                      go_wp2_with fail
                      refine HC0.out.mono ?_; rintro e w3 ⟨rfl, hb3⟩
                      have HB3 := Lib.hid (HP.out.old.trans (hb3.mono HP.out.old.size))
                      clear hb3
                      go_wp2_with fail
                      go_ret2
                      exact ⟨congrArg Ending.returned HN1.out.symm, HB3.out⟩
                    | some ψ =>
                      have hsz := HSZ1.out ψ hr
                      have epv : putVal (some ψ) = .tuple #[.string (txtS (Fm.text ψ)), .bool true] := rfl
                      rw [hr] at HC0 HTK
                      rw [epv] at HC0
                      clear hr epv
                      have hTz : (txtS (Fm.text ψ)).size ≤ 16000000 := by rw [txtS_size]; exact hsz
                      have HPS2 : Hid (∃ ψs : List Fm.T, (PS.take (k + 1)).map (fun f => Fm.putG V f (Fm.fput m x x)) = ψs.map some ∧ out ++ txtS (Fm.text ψ) = txtS (QB :: [Fm.vb x] ++ ψs.flatMap Fm.text)) := by
                        obtain ⟨ψs, h1, h2⟩ := HPS.out
                        refine ⟨ψs ++ [ψ], by rw [HTK.out, h1, List.map_append]; rfl, ?_⟩
                        rw [h2, txtS_app]
                        simp
                      clear hsz
                      obtain ⟨T, hT⟩ : ∃ T, txtS (Fm.text ψ) = T := ⟨_, rfl⟩
                      rw [hT] at HC0 hTz HPS2
                      clear hT
                      have hcat : ¬ 9223372036854775807 < out.size + T.size := by omega
                      go_wp2_with fail
                      refine HC0.out.mono ?_; rintro e w3 ⟨rfl, hb3⟩
                      have HP3 := Lib.hid (HP.out.below hb3)
                      clear hb3
                      go_wp2_with fail
                      go_roundw
                      case rel => exact ⟨k + 1, by omega, by go_num, _, rfl, by rw [ByteArray.size_append]; omega, HPS2.out, HP3.out⟩
                      case measure => simp [intOf]; omega
                  · have HEND : Hid (∃ ψ, RES = some ψ ∧ out = txtS (Fm.text ψ)) := by
                      obtain ⟨ψs, h1, h2⟩ := HPS.out
                      rw [List.take_of_length_le (by omega)] at h1
                      obtain ⟨ψ, h3, h4⟩ := HF.out.yes ψs h1
                      exact ⟨ψ, h3, by rw [h2, h4]⟩
                    obtain ⟨ψ, hψ, ho⟩ := HEND.out
                    have HPV : Hid (putVal RES = .tuple #[.string out, .bool true]) := by
                      show _ = _
                      rw [hψ, ho]; rfl
                    have HB := Lib.hid HP.out.old
                    have hkq : (k : Int) = (qs.length : Int) := by omega
                    clear HEND hψ ho
                    go_wp2_with fail
                    go_ret2
                    exact ⟨congrArg Ending.returned HPV.out.symm, HB.out⟩
            · rw [ht] at hcl
              rcases Fm.fresh_taken ht with ⟨hn, hff⟩ | ⟨u', hu, hff⟩
              · rw [hff] at HIX
                have HE := Lib.hid (HNF.out hn)
                clear hn hff ht
                go_wp2_with fail
                refine HIX.out.mono ?_; rintro e wv ⟨rfl, hwv⟩; rw [hwv]; clear hwv wv
                go_wp2_with fail
                go_ret2
                exact ⟨congrArg Ending.returned HE.out.symm, HTE.out.pn.old⟩
              · rw [hff] at HIX
                have hu4 : (u'.val : Int) < 4 ∧ (0 : Int) ≤ (u'.val : Int) := by have := u'.isLt; omega
                obtain ⟨zu, hzu⟩ : ∃ y : Int, ((97 + u'.val : Nat) : Int) = y := ⟨_, rfl⟩
                have HZU := Lib.hid hzu
                have ew : IntKind.u8.wrap (97 + (u'.val : Int)) = zu := by rw [← hzu]; clear hzu HZU hff hu HIX hu4 ; revert u'; decide +kernel
                clear hff hzu
                have HF2 := Lib.hid (HF.out u' hu)
                have hpv1 := HTE.out.pn.setv x u'
                rw [HZU.out] at hpv1
                have HPV1 := Lib.hid hpv1
                obtain ⟨W28, hW28⟩ : ∃ W28, (wr.setCell ⟨w.heap.size + 1, x.val, none⟩ (.int .u8 zu)).alloc (.cells #[.int .u8 zu] 5) = W28 := ⟨_, rfl⟩
                have HPM2 : Hid (Pn w W28 (Fm.fput m x u') sp rp ∧ W28.cell? ⟨wr.heap.size, 0, none⟩ = some (.int .u8 zu)) := by
                  rw [← hW28]
                  refine ⟨HPV1.out.below ((Below.refl _ _).alloc (Nat.le_refl _) _), ?_⟩
                  have e : (wr.setCell ⟨w.heap.size + 1, x.val, none⟩ (.int .u8 zu)).heap.size = wr.heap.size := by simp [World.setCell]
                  have h := heap_alloc_new (wr.setCell ⟨w.heap.size + 1, x.val, none⟩ (.int .u8 zu)) (.cells #[.int .u8 zu] 5)
                  rw [e] at h
                  unfold World.cell?
                  rw [h]; rfl
                have HNC : Hid (∀ j (hj : j < [Fm.vb u'].length), W28.drew.cell? ⟨wr.heap.size, j, none⟩ = some (.int .u8 (([Fm.vb u'][j]).toNat : Int))) := fun j hj => by
                  obtain rfl : j = 0 := by simpa using hj
                  have e : W28.drew.cell? ⟨wr.heap.size, 0, none⟩ = W28.cell? ⟨wr.heap.size, 0, none⟩ := rfl
                  have e2 : zu = ((Fm.vb u').toNat : Int) := by rw [← HZU.out, vb_nat]; omega
                  rw [e, HPM2.out.2, e2]; rfl
                have HLN : Hid ([Fm.vb u'].length = 1) := rfl
                have HPM := Lib.hid HPM2.out.1
                have hkk : (1 : Nat) ≤ 2 := by omega
                have cc0 : W28.cell? ⟨p, 0, none⟩ = some (.int .u8 (q.byte.toNat : Int)) := (HPM.out.old.cell (World.block_lt_of_cell? _ _ HCS.out.1)).trans HCS.out.1
                have HW28 := Lib.hid hW28
                have HC2 : Hid (w.cell? ⟨p, 2, none⟩ = some (.slice (some ⟨gp0, 0, none⟩) [q0].length cp)) := HOLD.out.2.1
                obtain ⟨PS, hPS⟩ : ∃ l, [f] = l := ⟨_, rfl⟩
                obtain ⟨qs, hqs⟩ : ∃ l, [q0] = l := ⟨_, rfl⟩
                have hq2 : PS.length ≤ 2 := by rw [← hPS]; simp
                have hqv : qs.length = PS.length := by rw [← hPS, ← hqs]; rfl
                replace HTS : Hid (Trees F w PS qs) := by rw [← hPS, ← hqs]; exact HTS.out
                replace HIH : Hid (∀ g ∈ PS, PutOK V g) := by rw [← hPS]; exact HIH.out
                replace HSZ : Hid (∀ g ∈ PS, ∀ m' ψ, Fm.putG V g m' = some ψ → (Fm.text ψ).length ≤ 16000000) := by rw [← hPS]; exact HSZ.out
                replace HF : Hid (Fm.PutFacts V PS (Fm.fput m x u') (q.byte :: [Fm.vb u']) RES) := by rw [← hPS]; exact HF2.out
                replace HPC : Hid (0 < qs.length → ∃ g, (some ⟨gp0, 0, none⟩ : Option Addr) = some ⟨g, 0, none⟩ ∧ F g ∧ g < w.heap.size ∧ ∀ j, j < qs.length → w.cell? ⟨g, j, none⟩ = (qs.map ptrV)[j]?) := by rw [← hqs]; exact HPC.out
                rw [hqs] at HC2
                obtain ⟨ap, hap⟩ : ∃ a : Option Addr, (some ⟨gp0, 0, none⟩ : Option Addr) = a := ⟨_, rfl⟩
                rw [hap] at HC2 HPC
                clear hap
                have hlp : qs.length ≤ cp := by rw [← hqs]; exact lp
                have HAF : Hid (wr.frozen? ⟨w.heap.size + 1, x.val, none⟩ = false ∧ wr.cell? ⟨w.heap.size + 1, x.val, none⟩ = some (.int .u8 (bAt m x))) := ⟨c4_frozen HTE.out.pn.arr x.val, c4_cell HTE.out.pn.arr x⟩
                have afr := HAF.out.1
                have acl := HAF.out.2
                clear hW28 hPS hqs HF2 HPV1 hpv1 HPM2 lp
                generalize bAt m x = bmx at *
                go_wp2_with fail
                refine HIX.out.mono ?_; rintro e wv ⟨rfl, hwv⟩; rw [hwv]; clear hwv wv
                go_upto_region 28 with fail
                rw [HW28.out]
                clear afr acl e1 hcl htk4 c0 o1 o2 o3 o4 o5
                obtain ⟨QB, hQB⟩ : ∃ b, q.byte = b := ⟨_, rfl⟩
                rw [hQB] at cc0 HF
                clear hQB
                have c0 := cc0
                clear cc0
                have cA : (convert 22 9 (.slice (some ⟨W28.heap.size, 0, none⟩) 1 1)).run Tryz.prog (W28.alloc (.cells #[.int .u8 (QB.toNat : Int)] 5)).drew = .ok (.string (txtS [QB])) (W28.alloc (.cells #[.int .u8 (QB.toNat : Int)] 5)).drew := conv_bytes _ _ 1 [QB] (fun j hj => by
                  obtain rfl : j = 0 := by simpa using hj
                  show (W28.alloc (.cells #[.int .u8 (QB.toNat : Int)] 5)).cell? ⟨W28.heap.size, 0, none⟩ = some (.int .u8 (QB.toNat : Int))
                  unfold World.cell?
                  rw [heap_alloc_new]; rfl)
                have cB1 : (convert 22 9 (.slice (some ⟨wr.heap.size, 0, none⟩) 1 1)).run Tryz.prog W28.drew = .ok (.string (txtS [Fm.vb u'])) W28.drew := by
                  have h := conv_bytes W28.drew wr.heap.size 1 [Fm.vb u'] HNC.out
                  rw [HLN.out] at h
                  exact h
                have cB2 : (convert 22 9 (.slice (some ⟨wr.heap.size, 0, none⟩) 1 1)).run Tryz.prog (W28.alloc (.cells #[.int .u8 (QB.toNat : Int)] 5)).drew = .ok (.string (txtS [Fm.vb u'])) (W28.alloc (.cells #[.int .u8 (QB.toNat : Int)] 5)).drew := by
                  have h := conv_bytes (W28.alloc (.cells #[.int .u8 (QB.toNat : Int)] 5)).drew wr.heap.size 1 [Fm.vb u'] (fun j hj => by
                    have h1 := (Below.cell ((Below.refl W28.drew.heap.size W28.drew).alloc (Nat.le_refl _) (.cells #[.int .u8 (QB.toNat : Int)] 5)) (World.block_lt_of_cell? _ _ (HNC.out j hj))).trans (HNC.out j hj)
                    exact h1)
                  rw [HLN.out] at h
                  exact h
                have HP2 : Hid (Pn w (W28.alloc (.cells #[.int .u8 (QB.toNat : Int)] 5)).drew (Fm.fput m x u') sp rp) := HPM.out.below (((Below.refl W28.heap.size W28).alloc (Nat.le_refl _) _).drew)
                have HOE : Hid (txtS [QB] ++ txtS [Fm.vb u'] = txtS (QB :: [Fm.vb u'])) := by
                  show _ = _
                  rw [txtS_app]; simp
                have HOS : Hid ((txtS [QB] ++ txtS [Fm.vb u']).size ≤ 10) := by
                  show _ ≤ _
                  rw [ByteArray.size_append, txtS_size, txtS_size, HLN.out]
                  first | omega | (simp; done) | (simp; omega)
                have sA : (txtS [QB]).size = 1 := rfl
                have sB : (txtS [Fm.vb u']).size ≤ 2 := by rw [txtS_size, HLN.out]; omega
                go_cut [16] (fun o wx => ∃ out : ByteArray, o = .string out ∧ out.size ≤ 10 ∧ Hid (out = txtS (QB :: [Fm.vb u'])) ∧ Hid (Pn w wx (Fm.fput m x u') sp rp))
                case first =>
                  go_region_with (fail)
                  all_goals
                    go_wp2_with fail
                    go_meet
                    exact ⟨_, rfl, HOS.out, HOE.out, HP2.out⟩
                case rest =>
                  obtain ⟨out0, rfl, hoz0, HO0', HPW⟩ := hcut
                  have c2' := (HPW.out.old.cell (World.block_lt_of_cell? _ _ HC2.out)).trans HC2.out
                  clear cA cB1 cB2 HP2 HOE HOS sA sB HNC HLN
                  rename_i wr0
                  go_wp2_with fail
                  go_loopw [154, 16] (fun i o wx => ∃ k : Nat, k ≤ PS.length ∧ i = .int .i64 (k : Int) ∧ ∃ out : ByteArray, o = .string out ∧ out.size ≤ 10 + 16000000 * k ∧ Hid (∃ ψs : List Fm.T, (PS.take k).map (fun f => Fm.putG V f (Fm.fput m x u')) = ψs.map some ∧ out = txtS (QB :: [Fm.vb u'] ++ ψs.flatMap Fm.text)) ∧ Hid (Pn w wx (Fm.fput m x u') sp rp)) (fun i _ _ => PS.length - (intOf i).toNat)
                  case atStart => exact ⟨0, by omega, rfl, _, rfl, by omega, ⟨[], rfl, by rw [HO0'.out]; simp⟩, HPW.out⟩
                  case round =>
                    obtain ⟨k, hk, rfl, out, rfl, hoz, HPS, HP⟩ := hrel
                    by_cases hlt : k < PS.length
                    · obtain ⟨gp, rfl, hg0, hg1, hgc⟩ := HPC.out (by omega)
                      have hcq : w.cell? ⟨gp, k, none⟩ = some (ptrV (qs.getD k 0)) := by
                        rw [hgc k (by omega)]
                        simp [show k < qs.length by omega]
                      have dq := (HP.out.old.cell (p := ⟨gp, k, none⟩) hg1).trans hcq
                      have htk := part_at k hlt HTS.out
                      obtain ⟨f, hf⟩ : ∃ f, PS[k] = f := ⟨_, rfl⟩
                      rw [hf] at htk
                      have hmem : f ∈ PS := by rw [← hf]; exact List.getElem_mem hlt
                      have HTK : Hid ((PS.take (k + 1)).map (fun f => Fm.putG V f (Fm.fput m x u')) = (PS.take k).map (fun f => Fm.putG V f (Fm.fput m x u')) ++ [Fm.putG V f (Fm.fput m x u')]) := by
                        show _ = _
                        rw [List.take_succ_eq_append_getElem hlt, List.map_append, hf]; rfl
                      have HC0 := Lib.hid (HIH.out f hmem F wr (qs.getD k 0) (Fm.fput m x u') sp rp (htk.below HP.out.old) (HVA.out.below HP.out.old))
                      have HSZ1 := Lib.hid (HSZ.out f hmem (Fm.fput m x u'))
                      have HNO := Lib.hid (HF.out.no f hmem)
                      obtain ⟨b0, b1, bx', bl⟩ := HP.out.cells
                      have bx0 : wr.cell? ⟨w.heap.size + 1, 0, none⟩ = some (.int .u8 (bAt (Fm.fput m x u') 0)) := bx' 0
                      have bx1 : wr.cell? ⟨w.heap.size + 1, 1, none⟩ = some (.int .u8 (bAt (Fm.fput m x u') 1)) := bx' 1
                      have bx2 : wr.cell? ⟨w.heap.size + 1, 2, none⟩ = some (.int .u8 (bAt (Fm.fput m x u') 2)) := bx' 2
                      have bx3 : wr.cell? ⟨w.heap.size + 1, 3, none⟩ = some (.int .u8 (bAt (Fm.fput m x u') 3)) := bx' 3
                      have hkI : (k : Int) < (PS.length : Int) := by omega
                      have hkq : (k : Int) < (qs.length : Int) := by omega
                      unfold arrV arrC c4 ptrV at HC0
                      unfold ptrV at dq
                      clear hgc hcq htk hf hmem bx'
                      generalize qs.getD k 0 = q1 at *
                      cases hr : Fm.putG V f (Fm.fput m x u') with
                      | none =>
                        have HN1 : Hid (putVal RES = .tuple #[.string ByteArray.empty, .bool false]) := by show _ = _; rw [HNO.out hr]; rfl
                        have epv : putVal none = .tuple #[.string ByteArray.empty, .bool false] := rfl
                        rw [hr, epv] at HC0
                        clear hr epv
                        go_wp2_with fail
                        refine HC0.out.mono ?_; rintro e w3 ⟨rfl, hb3⟩
                        have HB3 := Lib.hid (HP.out.old.trans (hb3.mono HP.out.old.size))
                        clear hb3
                        go_wp2_with fail
                        go_ret2
                        exact ⟨congrArg Ending.returned HN1.out.symm, HB3.out⟩
                      | some ψ =>
                        have hsz := HSZ1.out ψ hr
                        have epv : putVal (some ψ) = .tuple #[.string (txtS (Fm.text ψ)), .bool true] := rfl
                        rw [hr] at HC0 HTK
                        rw [epv] at HC0
                        clear hr epv
                        have hTz : (txtS (Fm.text ψ)).size ≤ 16000000 := by rw [txtS_size]; exact hsz
                        have HPS2 : Hid (∃ ψs : List Fm.T, (PS.take (k + 1)).map (fun f => Fm.putG V f (Fm.fput m x u')) = ψs.map some ∧ out ++ txtS (Fm.text ψ) = txtS (QB :: [Fm.vb u'] ++ ψs.flatMap Fm.text)) := by
                          obtain ⟨ψs, h1, h2⟩ := HPS.out
                          refine ⟨ψs ++ [ψ], by rw [HTK.out, h1, List.map_append]; rfl, ?_⟩
                          rw [h2, txtS_app]
                          simp
                        clear hsz
                        obtain ⟨T, hT⟩ : ∃ T, txtS (Fm.text ψ) = T := ⟨_, rfl⟩
                        rw [hT] at HC0 hTz HPS2
                        clear hT
                        have hcat : ¬ 9223372036854775807 < out.size + T.size := by omega
                        go_wp2_with fail
                        refine HC0.out.mono ?_; rintro e w3 ⟨rfl, hb3⟩
                        have HP3 := Lib.hid (HP.out.below hb3)
                        clear hb3
                        go_wp2_with fail
                        go_roundw
                        case rel => exact ⟨k + 1, by omega, by go_num, _, rfl, by rw [ByteArray.size_append]; omega, HPS2.out, HP3.out⟩
                        case measure => simp [intOf]; omega
                    · have HEND : Hid (∃ ψ, RES = some ψ ∧ out = txtS (Fm.text ψ)) := by
                        obtain ⟨ψs, h1, h2⟩ := HPS.out
                        rw [List.take_of_length_le (by omega)] at h1
                        obtain ⟨ψ, h3, h4⟩ := HF.out.yes ψs h1
                        exact ⟨ψ, h3, by rw [h2, h4]⟩
                      obtain ⟨ψ, hψ, ho⟩ := HEND.out
                      have HPV : Hid (putVal RES = .tuple #[.string out, .bool true]) := by
                        show _ = _
                        rw [hψ, ho]; rfl
                      have HB := Lib.hid HP.out.old
                      have hkq : (k : Int) = (qs.length : Int) := by omega
                      clear HEND hψ ho
                      go_wp2_with fail
                      go_ret2
                      exact ⟨congrArg Ending.returned HPV.out.symm, HB.out⟩
/-- The program's put, whatever the formula. -/
theorem part_len {φ f : Fm.T} (h : f ∈ φ.ps) : (Fm.text f).length ≤ (Fm.text φ).length := by
  cases φ <;> simp [Fm.T.ps] at h
  · subst h; simp [Fm.text]
  · rcases h with rfl | rfl <;> simp [Fm.text] <;> omega
  · subst h; simp [Fm.text]; omega
theorem put_any (V : Option (Fm.T × Fm.T)) (hVS : Fm.VShort V) (hV : ∀ ps pr, V = some (ps, pr) → PutOK none ps ∧ PutOK none pr) : ∀ φ : Fm.T, (Fm.text φ).length ≤ 4000 → PutOK V φ := by
  intro φ
  induction φ with
  | lit b => intro h; exact put_step V hVS hV _ h (fun f hf => by cases hf)
  | set v => intro h; exact put_step V hVS hV _ h (fun f hf => by cases hf)
  | rel e v u => intro h; exact put_step V hVS hV _ h (fun f hf => by cases hf)
  | neg f ih =>
    intro h
    exact put_step V hVS hV _ h (fun g hg => by
      have e : g = f := by simpa [Fm.T.ps] using hg
      rw [e]
      exact ih (Nat.le_trans (part_len (φ := .neg f) (by simp [Fm.T.ps])) h))
  | bin o f g ih1 ih2 =>
    intro h
    exact put_step V hVS hV _ h (fun k hk => by
      rcases (by simpa [Fm.T.ps] using hk : k = f ∨ k = g) with e | e
      · rw [e]; exact ih1 (Nat.le_trans (part_len (φ := .bin o f g) (by simp [Fm.T.ps])) h)
      · rw [e]; exact ih2 (Nat.le_trans (part_len (φ := .bin o f g) (by simp [Fm.T.ps])) h))
  | qu q v f ih =>
    intro h
    exact put_step V hVS hV _ h (fun g hg => by
      have e : g = f := by simpa [Fm.T.ps] using hg
      rw [e]
      exact ih (Nat.le_trans (part_len (φ := .qu q v f) (by simp [Fm.T.ps])) h))
theorem put_plain (φ : Fm.T) (h : (Fm.text φ).length ≤ 4000) : PutOK none φ := put_any none (fun p hp => by cases hp) (fun ps pr hp => by cases hp) φ h
theorem put_view (ps pr φ : Fm.T) (h1 : (Fm.text ps).length ≤ 4000) (h2 : (Fm.text pr).length ≤ 4000) (h : (Fm.text φ).length ≤ 4000) : PutOK (some (ps, pr)) φ :=
  put_any _ (fun p hp => by injection hp with hp; subst hp; exact ⟨h1, h2⟩) (fun a b hp => by injection hp with hp; injection hp with e1 e2; subst e1; subst e2; exact ⟨put_plain _ h1, put_plain _ h2⟩) φ h
end Go.Proofs.YtihomcedaaiidaaGreatDoor
