/- Contracts of the program's functions and what they compute: part 37. Conditions: those that each theorem states. -/
import Derived.Test.YtofmagiahmmmgaaGreatDoorP53n9
import Derived.Deep.RegionLaw
import Derived.Deep.AppendLies
namespace Go.Proofs.YtofmagiahmmmgaaGreatDoor
open Go.RowKit
set_option linter.unusedVariables false
/-- A text of bytes. -/
def txt (l : List UInt8) : ByteArray := ⟨l.toArray⟩
theorem txt_size (l : List UInt8) : (txt l).size = l.length := by
  show l.toArray.size = _
  simp
theorem txt_append (l m : List UInt8) : txt (l ++ m) = txt l ++ txt m := by
  apply ByteArray.ext
  rw [ByteArray.data_append]
  simp [txt]
theorem bitS_txt (b : Bool) : bitS b = txt [Gs.bitU b] := rfl
theorem l1Set_b (n : Int) (S R : ByteArray) (x : Nat) (w : World) (hx : x < S.size) (hS : S.size ≤ 9223372036854775807) :
    Calls Tryz.prog 84 #[strV n S R, .int .i64 (x : Int)] w fun e w' => e = .returned (.bool (oneAt S x)) ∧ Below w.heap.size w w' :=
  (l1Set_any n S R x w hx hS).mono fun _ _ ⟨h1, h2⟩ => ⟨h1, by rw [h2]; exact boxS_below _ _ _ _⟩
theorem l1Rel_b (n : Nat) (S R : ByteArray) (x y : Nat) (w : World) (hx : x < n) (hy : y < n) (hn : n ≤ 8) (hR : R.size = n * n) :
    Calls Tryz.prog 85 #[strV n S R, .int .i64 (x : Int), .int .i64 (y : Int)] w fun e w' => e = .returned (.bool (relAt n R x y)) ∧ Below w.heap.size w w' :=
  (l1Rel_any n S R x y w hx hy hn hR).mono fun _ _ ⟨h1, h2⟩ => ⟨h1, by rw [h2]; exact boxS_below _ _ _ _⟩
theorem ret_str {a b : ByteArray} (h : a = b) : Ending.returned (.string a) = .returned (.string b) := by rw [h]
/-- The atoms of an element and those before it, as far as k. -/
def part (a : Gs.St) (la : List Nat) (x k : Nat) : List UInt8 := Gs.bitU (a.s x) :: ((la.take k).flatMap fun y => [Gs.bitU (decide (x = y)), Gs.bitU (a.r x y), Gs.bitU (a.r y x)])
theorem part_succ (a : Gs.St) (la : List Nat) (x k : Nat) (hk : k < la.length) : part a la x (k + 1) = part a la x k ++ ([Gs.bitU (decide (x = la.getD k 0))] ++ [Gs.bitU (a.r x (la.getD k 0))] ++ [Gs.bitU (a.r (la.getD k 0) x)]) := by
  unfold part
  rw [List.take_succ_eq_append_getElem hk, List.flatMap_append, List.cons_append]
  simp [hk]
theorem part_all (a : Gs.St) (la : List Nat) (i : Nat) (hi : i < la.length) : Gs.atomsTo a la (i + 1) = Gs.atomsTo a la i ++ part a la (la.getD i 0) (i + 1) := by
  show Gs.atomsTo a la i ++ Gs.atomsAt a (la.take i) (la.getD i 0) = _
  unfold Gs.atomsAt part
  rw [List.take_succ_eq_append_getElem hi]
  simp [hi]
theorem atomsTo_le (a : Gs.St) (la : List Nat) (i : Nat) (hi : i ≤ 8) : (Gs.atomsTo a la i).length ≤ 28 * i := by
  induction i with
  | zero => simp [Gs.atomsTo]
  | succ i ih =>
    simp only [Gs.atomsTo, List.length_append, Gs.atomsAt_length, List.length_take]
    have := ih (by omega)
    omega
set_option maxRecDepth 100000 in
set_option maxHeartbeats 1000000 in
theorem l5Atoms_any (n : Nat) (S R : ByteArray) (va : Value) (la : List Nat) (w : World)
    (hS : S.size = n) (hR : R.size = n * n) (hn : n ≤ 8) (hva : NumsAt w va la) (hl8 : la.length ≤ 8) (ha : ∀ z ∈ la, z < n) :
    Calls Tryz.prog 145 #[strV n S R, va] w fun e w' => e = .returned (.string (txt (Gs.atoms (stOf n S R) la))) ∧ Below w.heap.size w w' := by
  obtain ⟨aa, ca, rfl, ca1, ca2, hca⟩ := hva.view
  unfold maxLen at ca2
  have HCA := Lib.hid hca; clear hca hva
  have HA := Lib.hid ha
  have I1 := Lib.hid (fun x w (hx : x < n) => l1Set_b n S R x w (by omega) (by omega))
  have R1 := Lib.hid (fun x y w hx hy => l1Rel_b n S R x y w hx hy hn hR)
  have HT : Hid (SBlk (boxS w n S R) w.heap.size n S R ∧ Below w.heap.size w (boxS w n S R)) := ⟨boxS_SBlk _ _ _ _, boxS_below _ _ _ _⟩
  unfold boxS at HT
  clear ha hS hR
  unfold strV
  go_enter Tryz.func145, Tryz.ntmps145
  go_wp2_with fail
  go_loopw [6, 5] (fun i o wr => ∃ k : Nat, k ≤ la.length ∧ i = .int .i64 k ∧ ∃ out : ByteArray, o = .string out ∧ out.size ≤ 300 ∧ Hid (out = txt (Gs.atomsTo (stOf n S R) la k)) ∧ Hid (SBlk wr w.heap.size n S R ∧ Below w.heap.size w wr)) (fun i _ _ => la.length - (intOf i).toNat)
  case atStart => exact ⟨0, by omega, rfl, ByteArray.empty, rfl, by simp, rfl, HT.out⟩
  case round =>
    obtain ⟨i, hi, rfl, out, rfl, ho, HO, HT2⟩ := hrel
    by_cases hlt : i < la.length
    · obtain ⟨ga, oa, rfl, hga, hcka⟩ := HCA.out (by omega)
      have HCK := Lib.hid hcka
      have d1 := (HT2.out.2.cell (p := ⟨ga, oa + i, none⟩) hga).trans (hcka i hlt)
      have hv : la.getD i 0 < n := HA.out _ (by simp [hlt])
      have HALL := Lib.hid (part_all (stOf n S R) la i hlt)
      have hz0 := atomsTo_le (stOf n S R) la i (by omega)
      have hzi : out.size ≤ 28 * i := by rw [HO.out, txt_size]; exact hz0
      clear hcka hz0
      obtain ⟨v, hvx⟩ : ∃ v, la.getD i 0 = v := ⟨_, rfl⟩
      rw [hvx] at d1 hv HALL
      have HVX := Lib.hid hvx
      clear hvx
      have j1 := fun w => I1.out v w hv
      have j2 := fun b w => l1Bit_any b w
      have HP0 : Hid (out ++ bitS (oneAt S v) = txt (Gs.atomsTo (stOf n S R) la i ++ part (stOf n S R) la v 0)) := by
        show _ = _
        rw [HO.out, txt_append]; rfl
      have hb1 : (bitS (oneAt S v)).size = 1 := rfl
      generalize oneAt S v = b1 at *
      unfold strV at j1
      have J1 := Lib.hid j1; have J2 := Lib.hid j2
      clear j1 j2
      go_wp2_with fail
      have f0 := fun s => Since.cell HT2.out.1.cells.1 s
      have f1 := fun s => Since.cell HT2.out.1.cells.2.1 s
      have f2 := fun s => Since.cell HT2.out.1.cells.2.2.1 s
      have f3 := fun s => Since.cell d1 s
      refine wp_region_since (by kernel_rfl) (by kernel_rfl) ?_
      repeat (go_big_quiet_step (first | (with_reducible exact Since.call (J1.out _)) | (with_reducible exact Since.call_same (J2.out _ _))))
      refine wpQuiet_nil ?_
      intro w1 hb2
      have HT3 : Hid (SBlk w1 w.heap.size n S R ∧ Below w.heap.size w w1) := ⟨HT2.out.1.below hb2 HT2.out.1.cells.2.2.2.2.2.2, HT2.out.2.trans (hb2.mono HT2.out.2.size)⟩
      clear f0 f1 f2 f3 hb2
      go_wp2_with fail
      go_loopw [7, 5] (fun q o wr => ∃ k : Nat, k ≤ i + 1 ∧ q = .int .i64 k ∧ ∃ out : ByteArray, o = .string out ∧ out.size ≤ 28 * i + 1 + 3 * k ∧ Hid (out = txt (Gs.atomsTo (stOf n S R) la i ++ part (stOf n S R) la v k)) ∧ Hid (SBlk wr w.heap.size n S R ∧ Below w.heap.size w wr)) (fun q _ _ => i + 1 - (intOf q).toNat)
      case atStart =>
        refine ⟨0, by omega, rfl, _, rfl, ?_, HP0.out, HT3.out⟩
        rw [ByteArray.size_append, hb1]; omega
      case round =>
        obtain ⟨k, hk, rfl, out2, rfl, ho2, HO2, HT4⟩ := hrel
        by_cases hlt2 : k < i + 1
        · have hkl : k < la.length := by omega
          have d2 := (HT4.out.2.cell (p := ⟨ga, oa + k, none⟩) hga).trans (HCK.out k hkl)
          have d3 := (HT4.out.2.cell (p := ⟨ga, oa + i, none⟩) hga).trans (HCK.out i hlt)
          rw [HVX.out] at d3
          have hu : la.getD k 0 < n := HA.out _ (by simp [hkl])
          have HS2 := Lib.hid (part_succ (stOf n S R) la v k hkl)
          obtain ⟨u, hux⟩ : ∃ u, la.getD k 0 = u := ⟨_, rfl⟩
          rw [hux] at d2 hu HS2
          clear hux
          have j3 := fun w => R1.out v u w hv hu
          have j4 := fun w => R1.out u v w hu hv
          have HP1 : Hid (out2 ++ bitS (decide (v = u)) ++ bitS (relAt n R v u) ++ bitS (relAt n R u v) = txt (Gs.atomsTo (stOf n S R) la i ++ part (stOf n S R) la v (k + 1))) := by
            show _ = _
            rw [HS2.out, HO2.out]
            simp only [bitS_txt, ← txt_append, List.append_assoc]
            rfl
          have e1 : ((v : Int) == (u : Int)) = decide (v = u) := by rw [Bool.eq_iff_iff, beq_iff_eq, decide_eq_true_eq]; omega
          have hb2 : (bitS (decide (v = u))).size = 1 := rfl
          have hb3 : (bitS (relAt n R v u)).size = 1 := rfl
          have hb4 : (bitS (relAt n R u v)).size = 1 := rfl
          generalize decide (v = u) = c1 at *
          generalize relAt n R v u = c2 at *
          generalize relAt n R u v = c3 at *
          unfold strV at j3 j4
          have J3 := Lib.hid j3; have J4 := Lib.hid j4
          clear j3 j4 hkl
          go_wp2_with fail
          have f0 := fun s => Since.cell HT4.out.1.cells.1 s
          have f1 := fun s => Since.cell HT4.out.1.cells.2.1 s
          have f2 := fun s => Since.cell HT4.out.1.cells.2.2.1 s
          have f3 := fun s => Since.cell d2 s
          have f4 := fun s => Since.cell d3 s
          refine wp_region_since (by kernel_rfl) (by kernel_rfl) ?_
          repeat (go_big_quiet_step (first | (with_reducible exact Since.call_same (J2.out _ _)) | (with_reducible exact Since.call (J3.out _)) | (with_reducible exact Since.call (J4.out _))))
          refine wpQuiet_nil ?_
          intro w3 hb5
          have HT5 : Hid (SBlk w3 w.heap.size n S R ∧ Below w.heap.size w w3) := ⟨HT4.out.1.below hb5 HT4.out.1.cells.2.2.2.2.2.2, HT4.out.2.trans (hb5.mono HT4.out.2.size)⟩
          clear f0 f1 f2 f3 f4 hb5
          go_wp2_with fail
          go_roundw
          case rel =>
            refine ⟨k + 1, by omega, by go_num, _, rfl, ?_, HP1.out, HT5.out⟩
            simp only [ByteArray.size_append, hb2, hb3, hb4]; omega
          case measure => simp [intOf]; omega
        · have HO3 : Hid (out2 = txt (Gs.atomsTo (stOf n S R) la (i + 1))) := by
            show _ = _
            rw [HO2.out, HALL.out, show k = i + 1 by omega]
          go_wp2_with fail
          go_roundw
          case rel => exact ⟨i + 1, by omega, by go_num, out2, rfl, by omega, HO3.out, HT4.out⟩
          case measure => simp [intOf]; omega
    · have HE : Hid (out = txt (Gs.atoms (stOf n S R) la)) := by
        show _ = _
        rw [HO.out, show i = la.length by omega]; rfl
      go_wp2_with fail
      go_ret
      exact ⟨ret_str HE.out, HT2.out.2⟩
end Go.Proofs.YtofmagiahmmmgaaGreatDoor
namespace Go.Proofs.YtofmagiahmmmgaaGreatDoor
open Go.RowKit
set_option linter.unusedVariables false
/-- The list in which a description lies. -/
def hashL (l : List UInt8) : Nat := l.foldl (fun k c => (k * 31 + c.toNat) % 997) 0
theorem hash_lt (l : List UInt8) : hashL l < 997 := by
  have h : ∀ (l : List UInt8) (k : Nat), k < 997 → l.foldl (fun k c => (k * 31 + c.toNat) % 997) k < 997 := by
    intro l
    induction l with
    | nil => intro k hk; exact hk
    | cons c l ih => intro k _; exact ih _ (Nat.mod_lt _ (by decide))
  exact h l 0 (by decide)
theorem hash_snoc (l : List UInt8) (c : UInt8) : hashL (l ++ [c]) = (hashL l * 31 + c.toNat) % 997 := by
  simp [hashL, List.foldl_append]
/-- The descriptions in a list, with their numbers. -/
def bucket (D : List (List UInt8)) (k : Nat) : List (List UInt8 × Nat) := D.zipIdx.filter fun p => hashL p.1 == k
theorem bucket_snoc (D : List (List UInt8)) (s : List UInt8) (k : Nat) : bucket (D ++ [s]) k = bucket D k ++ (if hashL s = k then [(s, D.length)] else []) := by
  unfold bucket
  rw [List.zipIdx_append, List.filter_append]
  congr 1
  by_cases h : hashL s = k <;> simp [h]
theorem bucket_mem {D : List (List UInt8)} {k : Nat} {p : List UInt8 × Nat} : p ∈ bucket D k ↔ D[p.2]? = some p.1 ∧ hashL p.1 = k := by
  unfold bucket
  rw [List.mem_filter, beq_iff_eq]
  have : p ∈ D.zipIdx ↔ D[p.2]? = some p.1 := by
    obtain ⟨a, b⟩ := p
    rw [List.mem_zipIdx_iff_getElem?]
  rw [this]
theorem bucket_length (D : List (List UInt8)) (k : Nat) : (bucket D k).length ≤ D.length := by
  have := List.length_filter_le (fun p : List UInt8 × Nat => hashL p.1 == k) D.zipIdx
  simpa [bucket] using this
/-- The cells of entries. -/
def entCells (es : List (List UInt8 × Nat)) : List Value := es.flatMap fun p => [.string (txt p.1), .int .i64 (p.2 : Int)]
theorem entCells_at (es : List (List UInt8 × Nat)) : ∀ (i : Nat) (h : i < es.length), (entCells es)[i * 2]? = some (.string (txt es[i].1)) ∧ (entCells es)[i * 2 + 1]? = some (.int .i64 (es[i].2 : Int)) := by
  induction es with
  | nil => intro i h; simp at h
  | cons p es ih =>
    intro i h
    cases i with
    | zero => simp [entCells]
    | succ i =>
      have := ih i (by simpa using h)
      rw [show (i + 1) * 2 = i * 2 + 2 by omega, show i * 2 + 2 + 1 = i * 2 + 1 + 2 by omega]
      simpa [entCells] using this
/-- One list of the table. -/
structure Bkt (w : World) (F : Nat → Prop) (gL gC : Nat) (v : Value) (es : List (List UInt8 × Nat)) : Prop where
  own : w.ownsRow 0 240 2 v es.length (entCells es)
  foot : ∀ b, v.ownBlock = some b → F b ∧ b ≠ gL ∧ b ≠ gC
theorem own_block {w w' : World} {B : Nat} {e : TypeId} {z : Nat} {v : Value} {n : Nat} {xs : List Value} (h : w.ownsRow B e z v n xs) (hb : ∀ b, v.ownBlock = some b → w'.heap[b]? = w.heap[b]?) : w'.ownsRow B e z v n xs := by
  refine ⟨h.1, ?_⟩
  rcases h.2 with hn | ⟨g, cap, cur, rfl, hb', hgg, rest⟩
  · exact .inl hn
  · exact .inr ⟨g, cap, cur, rfl, hb', by rw [hb g rfl]; exact hgg, rest⟩
theorem Bkt.kept {w w' : World} {F F' : Nat → Prop} {gL gC : Nat} {v : Value} {es : List (List UInt8 × Nat)} (h : Bkt w F gL gC v es) (hb : ∀ b, v.ownBlock = some b → w'.heap[b]? = w.heap[b]?) (hF : ∀ b, F b → F' b) : Bkt w' F' gL gC v es :=
  ⟨own_block h.own hb, fun b hv => ⟨hF b (h.foot b hv).1, (h.foot b hv).2⟩⟩
theorem Bkt.view {w : World} {F : Nat → Prop} {gL gC : Nat} {v : Value} {es : List (List UInt8 × Nat)} (h : Bkt w F gL gC v es) :
    ∃ (a : Option Addr) (cap : Nat), v = .slice a es.length cap ∧ es.length ≤ cap ∧ cap ≤ maxLen ∧
      (0 < es.length → ∃ g, a = some ⟨g, 0, none⟩ ∧ g < w.heap.size ∧ ∀ i (hi : i < es.length), w.cell? ⟨g, i * 2, none⟩ = some (.string (txt es[i].1)) ∧ w.cell? ⟨g, i * 2 + 1, none⟩ = some (.int .i64 (es[i].2 : Int))) := by
  have ho := h.own
  rcases h.own.2 with ⟨rfl, h0⟩ | ⟨g, cap, cur, rfl, hb, hg, hnc, hcm, hcs, htake⟩
  · exact ⟨none, 0, by rw [h0], by omega, by decide, fun h => by omega⟩
  · refine ⟨_, cap, rfl, hnc, hcm, fun _ => ⟨g, rfl, (ho.lt g rfl).2, fun i hi => ?_⟩⟩
    obtain ⟨h1, h2⟩ := entCells_at es i hi
    rw [ho.cellAt (i * 2) (by omega), ho.cellAt (i * 2 + 1) (by omega)]
    exact ⟨h1, h2⟩
/-- The table in memory. -/
structure Tbl (w : World) (gL gC : Nat) (F : Nat → Prop) (vs : Array Value) (D : List (List UInt8)) : Prop where
  fL : F gL
  fC : F gC
  ne : gL ≠ gC
  lt : ∀ b, F b → b < w.heap.size
  size : vs.size = 997
  lists : w.heap[gL]? = some (.cells vs 238 (0, 0))
  bkt : ∀ k, k < 997 → Bkt w F gL gC (vs.getD k undef) (bucket D k)
  apart : ∀ j k, j < 997 → k < 997 → j ≠ k → (vs.getD j undef).ownBlock = none ∨ (vs.getD j undef).ownBlock ≠ (vs.getD k undef).ownBlock
  count : w.heap[gC]? = some (.cells #[.int .i64 (D.length : Int)] 3 (0, 0))
  nodup : D.Nodup
def tblV (gL gC : Nat) : Value := .agg #[.slice (some ⟨gL, 0, none⟩) 997 997, .slice (some ⟨gC, 0, none⟩) 1 1]
theorem Tbl.off {w w' : World} {gL gC : Nat} {F G : Nat → Prop} {vs : Array Value} {D : List (List UInt8)} (h : Tbl w gL gC F vs D) (hw : Off G w w') (hG : ∀ b, F b → ¬ G b) : Tbl w' gL gC F vs D := by
  have hb : ∀ b, F b → w'.heap[b]? = w.heap[b]? := fun b hf => hw.block b (h.lt b hf) (hG b hf)
  exact ⟨h.fL, h.fC, h.ne, fun b hf => Nat.lt_of_lt_of_le (h.lt b hf) hw.size, h.size, (hb gL h.fL).trans h.lists, fun k hk => (h.bkt k hk).kept (fun b hv => hb b ((h.bkt k hk).foot b hv).1) (fun _ h => h), h.apart, (hb gC h.fC).trans h.count, h.nodup⟩
theorem Tbl.below {w w' : World} {gL gC : Nat} {F : Nat → Prop} {vs : Array Value} {D : List (List UInt8)} (h : Tbl w gL gC F vs D) (hw : Below w.heap.size w w') : Tbl w' gL gC F vs D :=
  h.off (Off.of_below (F := fun _ => False) hw) (fun _ _ h => h)
theorem entInfo : (Tryz.prog.info? 240).map (fun i => (i.zero, i.size, i.bytes)) = some (some (.agg #[.string ByteArray.empty, .int .i64 0]), 2, 24) := by kernel_rfl
/-- A description is added. -/
theorem Tbl.add {w w' : World} {gL gC : Nat} {F : Nat → Prop} {vs : Array Value} {D : List (List UInt8)} {s : List UInt8} {v' : Value} {g : Nat} (h : Tbl w gL gC F vs D) (hs : s ∉ D)
    (hown : w'.ownsRow 0 240 2 v' ((bucket D (hashL s)).length + 1) (entCells (bucket D (hashL s)) ++ [.string (txt s), .int .i64 (D.length : Int)]))
    (hg : v'.ownBlock = some g) (hgn : (vs.getD (hashL s) undef).ownBlock = some g ∨ w.heap.size ≤ g)
    (hL : w'.heap[gL]? = some (.cells (vs.setIfInBounds (hashL s) v') 238 (0, 0)))
    (hC : w'.heap[gC]? = some (.cells #[.int .i64 ((D.length : Int) + 1)] 3 (0, 0)))
    (hsz : w.heap.size ≤ w'.heap.size) (hoth : ∀ b, F b → b ≠ gL → b ≠ gC → (vs.getD (hashL s) undef).ownBlock ≠ some b → w'.heap[b]? = w.heap[b]?) :
    Tbl w' gL gC (fun b => F b ∨ b = g) (vs.setIfInBounds (hashL s) v') (D ++ [s]) := by
  have hk := hash_lt s
  have hglt : g < w'.heap.size := (hown.lt g hg).2
  have hge : g ≠ gL ∧ g ≠ gC := by
    rcases hgn with h1 | h1
    · exact ((h.bkt _ hk).foot g h1).2
    · exact ⟨by have := h.lt gL h.fL; omega, by have := h.lt gC h.fC; omega⟩
  have get1 : (vs.setIfInBounds (hashL s) v').getD (hashL s) undef = v' := by
    rw [Array.getD_eq_getD_getElem?, Array.getElem?_setIfInBounds_self_of_lt (by rw [h.size]; exact hk)]; rfl
  have get2 : ∀ j, j ≠ hashL s → (vs.setIfInBounds (hashL s) v').getD j undef = vs.getD j undef := by
    intro j hj
    rw [Array.getD_eq_getD_getElem?, Array.getElem?_setIfInBounds_ne (Ne.symm hj), ← Array.getD_eq_getD_getElem?]
  have far : ∀ j, j < 997 → j ≠ hashL s → ∀ b, (vs.getD j undef).ownBlock = some b → b ≠ g := by
    intro j hj hjk b hb e
    subst e
    rcases hgn with h1 | h1
    · rcases h.apart j (hashL s) hj hk hjk with h2 | h2
      · rw [h2] at hb; cases hb
      · exact h2 (hb.trans h1.symm)
    · have := h.lt b ((h.bkt j hj).foot b hb).1; omega
  refine ⟨.inl h.fL, .inl h.fC, h.ne, ?_, by simp [h.size], hL, ?_, ?_, ?_, ?_⟩
  · rintro b (hb | rfl)
    · have := h.lt b hb; omega
    · exact hglt
  · intro j hj
    by_cases hjk : j = hashL s
    · subst hjk
      rw [get1, bucket_snoc, if_pos rfl]
      refine ⟨?_, fun b hb => ?_⟩
      · have e : entCells (bucket D (hashL s) ++ [(s, D.length)]) = entCells (bucket D (hashL s)) ++ [.string (txt s), .int .i64 (D.length : Int)] := by
          simp [entCells]
        rw [e, List.length_append, List.length_singleton]
        exact hown
      · rw [hg] at hb
        obtain rfl := Option.some.inj hb
        exact ⟨.inr rfl, hge⟩
    · rw [get2 j hjk, bucket_snoc, if_neg (fun e => hjk e.symm), List.append_nil]
      refine (h.bkt j hj).kept (fun b hb => hoth b ((h.bkt j hj).foot b hb).1 ((h.bkt j hj).foot b hb).2.1 ((h.bkt j hj).foot b hb).2.2 ?_) (fun b hb => .inl hb)
      rcases h.apart j (hashL s) hj hk hjk with h2 | h2
      · rw [h2] at hb; cases hb
      · intro e; exact h2 (hb.trans e.symm)
  · intro j k hj hk' hjk
    by_cases h1 : j = hashL s
    · subst h1
      rw [get1, get2 k (Ne.symm hjk), hg]
      exact .inr fun e => far k hk' (Ne.symm hjk) g e.symm rfl
    · rw [get2 j h1]
      by_cases h2 : k = hashL s
      · subst h2
        rw [get1, hg]
        cases hv : (vs.getD j undef).ownBlock with
        | none => exact .inl rfl
        | some b => exact .inr fun e => far j hj h1 b hv (Option.some.inj e)
      · rw [get2 k h2]
        exact h.apart j k hj hk' hjk
  · rw [hC, List.length_append, List.length_singleton]
    rfl
  · rw [List.nodup_append]
    refine ⟨h.nodup, by simp, fun a ha b hb e => ?_⟩
    simp at hb
    subst hb; subst e
    exact hs ha
end Go.Proofs.YtofmagiahmmmgaaGreatDoor
namespace Go.Proofs.YtofmagiahmmmgaaGreatDoor
open Go.RowKit
set_option linter.unusedVariables false
/-- What l5Number leaves. -/
def Numbered (gL gC : Nat) (F : Nat → Prop) (D : List (List UInt8)) (s : List UInt8) (w : World) (e : Ending) (w' : World) : Prop :=
  ∃ (n : Nat) (F' : Nat → Prop) (vs' : Array Value) (D' : List (List UInt8)), e = .returned (.int .i64 (n : Int)) ∧ Tbl w' gL gC F' vs' D' ∧ (D' = D ∨ D' = D ++ [s]) ∧ D'[n]? = some s ∧ Off F w w' ∧ ∀ b, F' b → F b ∨ w.heap.size ≤ b
theorem bucket_none {D : List (List UInt8)} {s : List UInt8} (h : ∀ i (hi : i < (bucket D (hashL s)).length), (bucket D (hashL s))[i].1 ≠ s) : s ∉ D := by
  intro hs
  obtain ⟨n, hn⟩ := List.mem_iff_getElem?.1 hs
  have hm : (s, n) ∈ bucket D (hashL s) := bucket_mem.2 ⟨hn, rfl⟩
  obtain ⟨i, hi, he⟩ := List.mem_iff_getElem.1 hm
  exact h i hi (by rw [he])
theorem txt_toList (l : List UInt8) : (txt l).data.toList = l := by simp [txt]
theorem txt_eq (l m : List UInt8) : ((txt l).toList == (txt m).toList) = decide (l = m) := by
  rw [ByteArray.toList_eq, ByteArray.toList_eq, txt_toList, txt_toList, Bool.eq_iff_iff, beq_iff_eq, decide_eq_true_eq]
theorem Tbl.cellL {w : World} {gL gC : Nat} {F : Nat → Prop} {vs : Array Value} {D : List (List UInt8)} (h : Tbl w gL gC F vs D) (k : Nat) (hk : k < 997) : w.cell? ⟨gL, k, none⟩ = some (vs.getD k undef) := by
  rw [cell_of_row w gL k vs _ (0, 0) h.lists, Array.getD_eq_getD_getElem?]
  have : k < vs.size := by rw [h.size]; exact hk
  simp [this]
theorem Tbl.cellC {w : World} {gL gC : Nat} {F : Nat → Prop} {vs : Array Value} {D : List (List UInt8)} (h : Tbl w gL gC F vs D) : w.cell? ⟨gC, 0, none⟩ = some (.int .i64 (D.length : Int)) ∧ w.frozen? ⟨gC, 0, none⟩ = false := by
  constructor <;> simp [World.cell?, World.frozen?, h.count]
theorem number_end {w w2 w3 : World} {gL gC : Nat} {F : Nat → Prop} {vs : Array Value} {D : List (List UInt8)} {s : List UInt8} {v : Value} {E : List (List UInt8 × Nat)} {o : Obj} {gg gcap : Nat}
    (ht : Tbl w gL gC F vs D) (hno : s ∉ D) (hoff : Off F w w2) (hgc : w2.heap[gC]? = some (.cells #[.int .i64 ((D.length : Int) + 1)] 3 (0, 0)))
    (hblk : ∀ b, b < w.heap.size → b ≠ gC → w2.heap[b]? = w.heap[b]?) (hv : vs.getD (hashL s) undef = v) (hE : bucket D (hashL s) = E)
    (ho3 : w3.ownsRow 0 240 2 (.slice (some ⟨gg, 0, none⟩) (E.length + 1) gcap) (E.length + 1) (entCells E ++ [.string (txt s), .int .i64 (D.length : Int)]))
    (hg3 : (w2.drew.alloc o).grownBy w3 v.ownBlock) (ha : v.ownBlock = some gg ∨ gg = w2.heap.size + 1) :
    Numbered gL gC F D s w (.returned (.int .i64 (D.length : Int))) (w3.setCell ⟨gL, hashL s, none⟩ (.slice (some ⟨gg, 0, none⟩) (E.length + 1) gcap)) := by
  have hk := hash_lt s
  have hz := hoff.size
  have hfo := (ht.bkt _ hk).foot
  rw [hv] at hfo
  have h3 : ∀ b, b < w2.heap.size → v.ownBlock ≠ some b → w3.heap[b]? = w2.heap[b]? := fun b hb hne =>
    (hg3.block b (by simp; omega) (fun e => hne e.symm)).trans (Below.heap_alloc w2.drew o b hb)
  have hs3 : w2.heap.size ≤ w3.heap.size := by
    have := hg3.size
    simp at this
    omega
  have hlg := ht.lt gL ht.fL
  have hlc := ht.lt gC ht.fC
  have hgg : gg ≠ gL ∧ (v.ownBlock = some gg ∨ w.heap.size ≤ gg) := by
    rcases ha with h | h
    · exact ⟨(hfo gg h).2.1, .inl h⟩
    · exact ⟨by omega, .inr (by omega)⟩
  have set_ne : ∀ b, b ≠ gL → (w3.setCell ⟨gL, hashL s, none⟩ (.slice (some ⟨gg, 0, none⟩) (E.length + 1) gcap)).heap[b]? = w3.heap[b]? := fun b hb => Below.heap_setCell _ _ _ _ hb
  have hL3 : w3.heap[gL]? = some (.cells vs 238 (0, 0)) := by
    rw [h3 gL (by omega) (fun e => (hfo gL e).2.1 rfl), hblk gL hlg ht.ne]
    exact ht.lists
  have htb : Tbl (w3.setCell ⟨gL, hashL s, none⟩ (.slice (some ⟨gg, 0, none⟩) (E.length + 1) gcap)) gL gC (fun b => F b ∨ b = gg) (vs.setIfInBounds (hashL s) (.slice (some ⟨gg, 0, none⟩) (E.length + 1) gcap)) (D ++ [s]) := by
    refine Tbl.add ht hno ?_ rfl ?_ ?_ ?_ ?_ ?_
    · rw [hE]
      refine own_block ho3 fun b hb => ?_
      obtain rfl : gg = b := Option.some.inj hb
      exact set_ne _ hgg.1
    · rw [hv]; exact hgg.2
    · simp only [World.setCell, Array.getElem?_modify, hL3]
      simp [Array.setIfInBounds]
    · rw [set_ne gC (Ne.symm ht.ne), h3 gC (by omega) (fun e => (hfo gC e).2.2 rfl)]
      exact hgc
    · simp [World.setCell]; omega
    · intro b hb h1 h2 h4
      rw [hv] at h4
      rw [set_ne b h1, h3 b (by have := ht.lt b hb; omega) h4, hblk b (ht.lt b hb) h2]
  refine ⟨D.length, _, _, _, rfl, htb, .inr rfl, by simp, ⟨?_, ?_, ?_, ?_, ?_⟩, ?_⟩
  · exact hg3.os.trans hoff.os
  · exact hg3.tape.trans hoff.tape
  · exact hg3.output.trans hoff.output
  · simp [World.setCell]; omega
  · intro b hb hn
    rw [set_ne b (fun e => hn (e ▸ ht.fL)), h3 b (by omega) (fun e => hn (hfo b e).1)]
    exact hoff.block b hb hn
  · rintro b (hb | rfl)
    · exact .inl hb
    · rcases hgg.2 with h | h
      · exact .inl (hfo _ h).1
      · exact .inr h
set_option maxRecDepth 100000 in
set_option maxHeartbeats 1000000 in
theorem l5Number_any (gL gC : Nat) (F : Nat → Prop) (vs : Array Value) (D : List (List UInt8)) (s : List UInt8) (w : World) (ht : Tbl w gL gC F vs D) (hD : D.length ≤ 1000000) (hs : s.length ≤ 1000000) :
    Calls Tryz.prog 149 #[tblV gL gC, .string (txt s)] w (Numbered gL gC F D s w) := by
  have HT := Lib.hid ht
  have hsz : (txt s).size ≤ 1000000 := by rw [txt_size]; exact hs
  have hd : (txt s).data.toList = s := txt_toList s
  have HS := Lib.hid hs; have HSS := Lib.hid hsz; have HD := Lib.hid hD; have HDD := Lib.hid hd
  have hs9 : (txt s).size ≤ 9223372036854775807 := by omega
  clear hsz hs hD hd
  have hlg := ht.lt gL ht.fL
  have hlc := ht.lt gC ht.fC
  have HW : Hid (Below w.heap.size w (w.alloc (.cells #[.slice (some ⟨gL, 0, none⟩) 997 997, .slice (some ⟨gC, 0, none⟩) 1 1] 121))) := (Below.refl _ _).alloc (Nat.le_refl _) _
  obtain ⟨T, hT⟩ : ∃ T, txt s = T := ⟨_, rfl⟩
  have HTT := Lib.hid hT
  rw [hT] at hs9 ⊢
  clear hT ht
  unfold tblV
  go_enter Tryz.func149, Tryz.ntmps149
  go_wp2_with fail
  go_loop [6, 5] (fun i q => ∃ k : Nat, k ≤ T.size ∧ i = .int .i64 k ∧ ∃ h : Nat, h < 997 ∧ q = .int .i64 (h : Int) ∧ Hid (h = hashL (T.data.toList.take k))) (fun i _ => T.size - (intOf i).toNat)
  case atStart => exact ⟨0, by omega, rfl, 0, by omega, rfl, rfl⟩
  case round =>
    obtain ⟨k, hk, rfl, h, hh, rfl, HH⟩ := hrel
    by_cases hlt : k < T.size
    · have hx : T.data.toList.take (k + 1) = T.data.toList.take k ++ [T[k]] := by
        rw [List.take_succ_eq_append_getElem (by simpa using hlt)]; rfl
      have HN : Hid ((h * 31 + T[k].toNat) % 997 = hashL (T.data.toList.take (k + 1))) := by
        show _ = _
        rw [hx, hash_snoc, HH.out]
      clear hx
      have hc0 := UInt8.toNat_lt T[k]
      go_wp2_with fail
      go_round
      case rel => exact ⟨k + 1, by omega, by go_num, (h * 31 + T[k].toNat) % 997, Nat.mod_lt _ (by decide), by go_num, HN.out⟩
      case measure => simp [intOf]; omega
    · have HK : Hid (h = hashL s) := by
        show h = hashL s
        rw [HH.out, List.take_of_length_le (by simp; omega), ← HTT.out, HDD.out]
      clear HH
      have hhI : (h : Int) < 997 := by omega
      have HT1 := Lib.hid (HT.out.below HW.out)
      have HB := Lib.hid (HT1.out.bkt h hh)
      have dL := HT1.out.cellL h hh
      obtain ⟨vk, hvk⟩ : ∃ v, vs.getD h undef = v := ⟨_, rfl⟩
      rw [hvk] at dL HB
      have HVK := Lib.hid hvk
      clear hvk
      obtain ⟨a, cap, rfl, hc1, hc2, hcells⟩ := HB.out.view
      have HC := Lib.hid hcells
      unfold maxLen at hc2
      clear hcells
      obtain ⟨E, hE⟩ : ∃ E, bucket D h = E := ⟨_, rfl⟩
      have HEE := Lib.hid hE
      rw [hE] at dL HC HB hc1
      clear hE
      go_wp2_with fail
      go_loop [7] (fun i => ∃ k : Nat, k ≤ E.length ∧ i = .int .i64 k ∧ Hid (∀ j (hj : j < E.length), j < k → E[j].1 ≠ s)) (fun i => E.length - (intOf i).toNat)
      case atStart => exact ⟨0, by omega, rfl, fun j _ hj => by omega⟩
      case round =>
        obtain ⟨i, hi, rfl, HK2⟩ := hrel
        by_cases hlt2 : i < E.length
        · obtain ⟨g, rfl, hg, hgc⟩ := HC.out (by omega)
          obtain ⟨d1, d2⟩ := hgc i hlt2
          obtain ⟨u, hu⟩ : ∃ u, E[i].1 = u := ⟨_, rfl⟩
          obtain ⟨m, hm⟩ : ∃ u, E[i].2 = u := ⟨_, rfl⟩
          have e1 := txt_eq u s
          rw [HTT.out] at e1
          rw [hu] at d1; rw [hm] at d2
          have HU := Lib.hid hu; have HM := Lib.hid hm
          clear hu hm hgc
          by_cases hus : u = s
          · have e2 : decide (u = s) = true := by simp [hus]
            rw [e2] at e1
            have HN : Hid (D[m]? = some s) := by
              have := bucket_mem.1 (List.getElem_mem (l := bucket D h) (by rw [HEE.out]; exact hlt2))
              have e : (bucket D h)[i]'(by rw [HEE.out]; exact hlt2) = E[i] := by simp [HEE.out]
              rw [e, HM.out, HU.out] at this
              rw [← hus]
              exact this.1
            clear hus e2
            go_wp2_with fail
            go_ret
            exact ⟨m, F, vs, D, rfl, HT1.out, .inl rfl, HN.out, Off.of_below HW.out, fun b hb => .inl hb⟩
          · have e2 : decide (u = s) = false := by simp [hus]
            rw [e2] at e1
            have HUS := Lib.hid hus
            clear hus e2
            go_wp2_with fail
            go_round
            case rel =>
              refine ⟨i + 1, by omega, by go_num, fun j hj hji => ?_⟩
              by_cases hjk : j = i
              · subst hjk; rw [HU.out]; exact HUS.out
              · exact HK2.out j hj (by omega)
            case measure => simp [intOf]; omega
        · have HNO : Hid (s ∉ D) := by
            refine bucket_none fun j hj => ?_
            have hj' : j < E.length := by rw [← HEE.out, HK.out]; exact hj
            have := HK2.out j hj' (by omega)
            have e : (bucket D (hashL s))[j] = E[j] := by simp [← HEE.out, HK.out]
            rw [e]; exact this
          obtain ⟨c0, c1⟩ := HT1.out.cellC
          have HD1 := Lib.hid HD.out
          have hDI : (D.length : Int) ≤ 1000000 := by have := HD.out; omega
          clear HK2
          go_wp2_with fail
          obtain ⟨w2, hw2⟩ : ∃ w2, (w.setCell ⟨gC, 0, none⟩ (.int .i64 ((D.length : Int) + 1))).alloc (.cells #[.slice (some ⟨gL, 0, none⟩) 997 997, .slice (some ⟨gC, 0, none⟩) 1 1] 121) = w2 := ⟨_, rfl⟩
          rw [hw2]
          have hz2 : w2.heap.size = w.heap.size + 1 := by rw [← hw2]; simp [World.setCell]
          have hblk : ∀ b, b < w.heap.size → b ≠ gC → w2.heap[b]? = w.heap[b]? := fun b hb hne => by
            rw [← hw2, Below.heap_alloc _ _ _ (by simpa [World.setCell] using hb), Below.heap_setCell _ _ _ _ hne]
          have hgc : w2.heap[gC]? = some (.cells #[.int .i64 ((D.length : Int) + 1)] 3 (0, 0)) := by
            rw [← hw2, Below.heap_alloc _ _ _ (by simpa [World.setCell] using hlc)]
            simp [World.setCell, Array.getElem?_modify, HT.out.count]
          have HOFF2 : Hid (Off F w w2) := by
            refine ⟨by rw [← hw2]; rfl, by rw [← hw2]; rfl, by rw [← hw2]; rfl, by omega, fun b hb hn => hblk b hb (fun e => hn (e ▸ HT.out.fC))⟩
          have hbox : w2.heap[w.heap.size]? = some (.cells #[.slice (some ⟨gL, 0, none⟩) 997 997, .slice (some ⟨gC, 0, none⟩) 1 1] 121 (0, 0)) := by
            rw [← hw2]
            have := heap_alloc_new (w.setCell ⟨gC, 0, none⟩ (.int .i64 ((D.length : Int) + 1))) (.cells #[.slice (some ⟨gL, 0, none⟩) 997 997, .slice (some ⟨gC, 0, none⟩) 1 1] 121)
            simpa [World.setCell] using this
          have b0 : w2.cell? ⟨w.heap.size, 0, none⟩ = some (.slice (some ⟨gL, 0, none⟩) 997 997) := by simp [World.cell?, hbox]
          have b1 : w2.cell? ⟨w.heap.size, 1, none⟩ = some (.slice (some ⟨gC, 0, none⟩) 1 1) := by simp [World.cell?, hbox]
          have hgl : w2.heap[gL]? = some (.cells vs 238 (0, 0)) := (hblk gL hlg HT.out.ne).trans HT.out.lists
          have b2 : w2.cell? ⟨gL, h, none⟩ = some (.slice a E.length cap) := by
            have hv := HVK.out
            rw [HEE.out] at hv
            rw [cell_of_row w2 gL h vs _ (0, 0) hgl, ← hv, Array.getD_eq_getD_getElem?]
            have : h < vs.size := by rw [HT.out.size]; exact hh
            simp [this]
          have b3 : w2.frozen? ⟨gL, h, none⟩ = false := by simp [World.frozen?, hgl]
          have hfo := HB.out.foot
          have hown2 : w2.ownsRow 0 240 2 (.slice a E.length cap) E.length (entCells E) := by
            refine own_block HB.out.own fun b hb => ?_
            rw [hblk b (HT.out.lt b (hfo b hb).1) (hfo b hb).2.2]
            exact (HW.out.block b (HT.out.lt b (hfo b hb).1)).symm
          have hEl : E.length ≤ 1000000 := by
            have h1 := bucket_length D h
            have h2 := HD.out
            rw [HEE.out] at h1
            omega
          have HOWN := Lib.hid hown2
          have HVE : Hid (vs.getD (hashL s) undef = .slice a E.length cap) := by
            have hv := HVK.out
            rw [HEE.out, HK.out] at hv
            exact hv
          have HEH : Hid (bucket D (hashL s) = E) := by
            have hv := HEE.out
            rw [HK.out] at hv
            exact hv
          have hgl2 : gL < w2.heap.size := by omega
          have hgb2 : w.heap.size < w2.heap.size := by omega
          have KS : Hid (∀ (w' : World), (∀ b, b < w2.heap.size → (Value.slice a E.length cap).ownBlock ≠ some b → w'.heap[b]? = w2.heap[b]?) → (w'.cell? ⟨w.heap.size, 0, none⟩ = some (.slice (some ⟨gL, 0, none⟩) 997 997) ∧ w'.cell? ⟨w.heap.size, 1, none⟩ = some (.slice (some ⟨gC, 0, none⟩) 1 1) ∧ w'.cell? ⟨gL, h, none⟩ = some (.slice a E.length cap) ∧ w'.frozen? ⟨gL, h, none⟩ = false)) := by
            intro w' hk
            have k1 : (Value.slice a E.length cap).ownBlock ≠ some w.heap.size := fun e => by
              have := HT.out.lt _ (hfo _ e).1; omega
            have k2 : (Value.slice a E.length cap).ownBlock ≠ some gL := fun e => (hfo _ e).2.1 rfl
            refine ⟨?_, ?_, ?_, ?_⟩
            · exact (World.cell?_of_block (w := w2) (a := ⟨w.heap.size, 0, none⟩) (hk _ (by show w.heap.size < _; omega) k1)).trans b0
            · exact (World.cell?_of_block (w := w2) (a := ⟨w.heap.size, 1, none⟩) (hk _ (by show w.heap.size < _; omega) k1)).trans b1
            · exact (World.cell?_of_block (w := w2) (a := ⟨gL, h, none⟩) (hk _ (by show gL < _; omega) k2)).trans b2
            · exact (World.frozen?_of_block (w := w2) (a := ⟨gL, h, none⟩) (hk _ (by show gL < _; omega) k2)).trans b3
          have HBLK := Lib.hid hblk; have HGC := Lib.hid hgc; have HGL := Lib.hid hgl; have HZ2 := Lib.hid hz2; have HEL := Lib.hid hEl; have HFO := Lib.hid hfo
          have hHE : Hid (E.length + 1 ≤ maxLen) := by show _ ≤ _; unfold maxLen; omega
          have hHF : Hid ((E.length + 1) * 24 ≤ 140737488355328) := by show _ ≤ _; omega
          obtain ⟨i0, hi0, hi1, hi2, hi3⟩ := info_parts entInfo
          have HI := Lib.hid (And.intro hi0 (And.intro hi1 (And.intro hi2 hi3)))
          clear hi0 hi1 hi2 hi3 hblk hgc hgl hbox hfo hown2 hEl hw2 HW c0 c1 hz2
          go_region_law ((refine step_append_lies (w := w2.drew.alloc (.cells #[.string T, .int .i64 (D.length : Int)] 240)) rfl (.tmp 69) (.tmp 73) _ rfl 0 240 i0 _ 2 24 Tryz.underlying238 HI.out.1 HI.out.2.1 HI.out.2.2.1 HI.out.2.2.2 rfl (by omega) (.slice a E.length cap) E.length (entCells E) rfl (HOWN.out.drew.alloc _) ⟨w2.heap.size, 0, none⟩ 1 1 [.string T, .int .i64 (D.length : Int)] rfl rfl (World.news_of_block (cs := #[.string T, .int .i64 (D.length : Int)]) (t := 240) (fr := (0, 0)) (heap_alloc_new w2.drew _)) (by simp [Value.oneCell']) (by omega) hHE.out hHF.out (Nat.zero_le _) (w2.heap.size + 1) (by simp) ?_; intro gg gcap w3 hown3 hgrow hat hlt3; have K3 := Lib.hid (KS.out w3 (fun b hb hne => (hgrow.block b (by simp; omega) (fun e => hne e.symm)).trans (by exact Below.heap_alloc w2.drew _ _ hb))); have k1 := K3.out.1; have k3 := K3.out.2.2.1; have k4 := K3.out.2.2.2; have HO3 := Lib.hid hown3; have HG3 := Lib.hid hgrow; have HA3 := Lib.hid hat; clear hown3 hgrow hat))
          all_goals go_wp2_with fail
          all_goals
            go_ret
            have h := number_end HT.out HNO.out HOFF2.out HGC.out HBLK.out HVE.out HEH.out (by rw [HTT.out]; exact HO3.out) HG3.out HA3.out
            rw [← HK.out] at h
            exact h
end Go.Proofs.YtofmagiahmmmgaaGreatDoor
