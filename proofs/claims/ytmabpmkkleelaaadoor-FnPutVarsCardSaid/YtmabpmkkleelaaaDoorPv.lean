/- PutVars of the program and of the reference. Condition: the texts' lengths fit an integer. -/
import Derived.Test.YtmabpmkkleelaaaDoorPullB
import Derived.Test.YtmabpmkkleelaaaDoorWord
import Derived.Lib.ConvBytes
import Derived.Deep.RegionHeld3
namespace Go.Proofs.YtmabpmkkleelaaaDoor
open Go.RowKit
set_option linter.unusedVariables false
set_option maxRecDepth 100000

def isV (c : UInt8) : Bool := c == 97 || c == 98 || c == 99 || c == 100
/-- The number of the variable at a place, -1 for none. -/
def ztI (s : ByteArray) (j : Nat) : Int := Fm.varI (s.data.toList.drop j)
/-- Whether a text names four variables. -/
def varsOk (s : ByteArray) : Bool := decide (s.size = 4) && s.data.toList.all isV
def mapOf (s : ByteArray) : Fm.M := fun x => ⟨(ztI s x.val).toNat % 4, Nat.mod_lt _ (by decide)⟩
/-- What PutVars returns. -/
def pvRes (f s : ByteArray) : Option Fm.T :=
  match readB f with
  | none => none
  | some φ => if varsOk s then Fm.put φ (mapOf s) else none
theorem pv_none {f s : ByteArray} (h : readB f = none) : pvRes f s = none := by unfold pvRes; rw [h]
theorem pv_some {f s : ByteArray} {φ : Fm.T} (h : readB f = some φ) : pvRes f s = if varsOk s then Fm.put φ (mapOf s) else none := by unfold pvRes; rw [h]
theorem isV_is {c : UInt8} (h : isV c = true) : c = 97 ∨ c = 98 ∨ c = 99 ∨ c = 100 := by
  unfold isV at h
  simp only [Bool.or_eq_true, beq_iff_eq] at h
  rcases h with ((h | h) | h) | h
  · exact .inl h
  · exact .inr (.inl h)
  · exact .inr (.inr (.inl h))
  · exact .inr (.inr (.inr h))
theorem varI_isV (c : UInt8) (l : List UInt8) : isV c = decide (0 ≤ Fm.varI (c :: l)) := by
  rw [Fm.varI_cons]
  unfold isV
  by_cases h1 : c = 97
  · subst h1; rfl
  by_cases h2 : c = 98
  · subst h2; rfl
  by_cases h3 : c = 99
  · subst h3; rfl
  by_cases h4 : c = 100
  · subst h4; rfl
  simp [h1, h2, h3, h4]
theorem four_bytes {s : ByteArray} (h : s.size = 4) : ∃ c0 c1 c2 c3, s = ⟨#[c0, c1, c2, c3]⟩ := by
  cases s with
  | mk d =>
    have hl : d.toList.length = 4 := by simpa [ByteArray.size] using h
    obtain ⟨l, rfl⟩ : ∃ l : List UInt8, d = l.toArray := ⟨d.toList, by simp⟩
    match l, hl with
    | [a, b, c, d], _ => exact ⟨a, b, c, d, rfl⟩
theorem ok_iff {s : ByteArray} (h : s.size = 4) : varsOk s = true ↔ ∀ j, j < 4 → 0 ≤ ztI s j := by
  obtain ⟨c0, c1, c2, c3, rfl⟩ := four_bytes h
  have e0 := varI_isV c0 [c1, c2, c3]
  have e1 := varI_isV c1 [c2, c3]
  have e2 := varI_isV c2 [c3]
  have e3 := varI_isV c3 []
  have ev : varsOk ⟨#[c0, c1, c2, c3]⟩ = (isV c0 && (isV c1 && (isV c2 && (isV c3 && true)))) := rfl
  rw [ev, e0, e1, e2, e3]
  simp only [Bool.and_eq_true, decide_eq_true_eq, and_true]
  constructor
  · rintro ⟨h0, h1, h2, h3⟩ j hj
    rcases (by omega : j = 0 ∨ j = 1 ∨ j = 2 ∨ j = 3) with rfl | rfl | rfl | rfl
    · exact h0
    · exact h1
    · exact h2
    · exact h3
  · intro hh
    exact ⟨hh 0 (by omega), hh 1 (by omega), hh 2 (by omega), hh 3 (by omega)⟩
theorem zt_map {s : ByteArray} {j : Nat} (hj : j < 4) (h : 0 ≤ ztI s j) : ztI s j = (((mapOf s ⟨j, hj⟩).val : Nat) : Int) := by
  have := Fm.varI_lt (s.data.toList.drop j)
  show ztI s j = (((ztI s j).toNat % 4 : Nat) : Int)
  unfold ztI at *
  omega
/-- The bytes of a text that names four variables. -/
theorem ok_bytes {s : ByteArray} (h : varsOk s = true) : s.size = 4 ∧ ∀ x : Fin 4, ((s.data.toList.getD x.val 0).toNat : Int) = bAt (mapOf s) x := by
  have h4 : s.size = 4 := by
    unfold varsOk at h
    rw [Bool.and_eq_true, decide_eq_true_iff] at h
    exact h.1
  refine ⟨h4, fun x => ?_⟩
  have hz := (ok_iff h4).1 h x.val x.isLt
  have e := zt_map x.isLt hz
  unfold bAt
  have key : ∀ (c : UInt8) (l : List UInt8) (k : Nat), isV c = true → Fm.varI (c :: l) = (k : Int) → (c.toNat : Int) = ((97 + k : Nat) : Int) := by
    intro c l k hc hk
    rw [Fm.varI_cons] at hk
    rcases isV_is hc with rfl | rfl | rfl | rfl
    · have : (k : Int) = 0 := hk.symm
      have : k = 0 := by omega
      subst this; rfl
    · have : (k : Int) = 1 := hk.symm
      have : k = 1 := by omega
      subst this; rfl
    · have : (k : Int) = 2 := hk.symm
      have : k = 2 := by omega
      subst this; rfl
    · have : (k : Int) = 3 := hk.symm
      have : k = 3 := by omega
      subst this; rfl
  have hx : x.val < s.data.toList.length := by
    have h5 : s.data.toList.length = 4 := h4
    have := x.isLt
    omega
  have hgd : s.data.toList.getD x.val 0 = s.data.toList[x.val] := by
    rw [List.getD_eq_getElem?_getD, List.getElem?_eq_getElem hx]; rfl
  have hd : s.data.toList.drop x.val = s.data.toList.getD x.val 0 :: s.data.toList.drop (x.val + 1) := by
    rw [List.drop_eq_getElem_cons hx, hgd]
  have hall : isV (s.data.toList.getD x.val 0) = true := by
    unfold varsOk at h
    rw [Bool.and_eq_true] at h
    have := List.all_eq_true.1 h.2 _ (List.getElem_mem hx)
    rw [hgd]; exact this
  refine key _ (s.data.toList.drop (x.val + 1)) _ hall ?_
  rw [← hd]
  exact e
theorem trimS_v (l : List UInt8) : /- 109 -/ (Lib.trimS l [97, 98, 99, 100]).isEmpty = l.all isV := by
  have h := trim_nil ([97, 98, 99, 100].contains ·) l
  have e : l.all ([97, 98, 99, 100].contains ·) = l.all isV := by
    congr 1
    funext b
    rw [Bool.eq_iff_iff]
    simp [isV, or_assoc]
  rw [e] at h
  rw [Bool.eq_iff_iff, List.isEmpty_iff]
  exact h
theorem trim_v (s : ByteArray) (w : World) (hs : s.size ≤ 9223372036854775807) :
    Calls Tryd.prog 109 #[.string s, .string ⟨#[97, 98, 99, 100]⟩] w fun e w' => (∃ t : ByteArray, e = .returned (.string t) ∧ t.toList.isEmpty = s.data.toList.all isV) ∧ Below w.heap.size w w' := by
  have hcon := Any.strings_Trim_laid Tryd.lays160 (by kernel_rfl) s ⟨#[97, 98, 99, 100]⟩ w hs (by decide) (ascii_of_all (by decide))
  refine hcon.mono fun e w' ⟨h1, h2⟩ => ⟨⟨_, h1, ?_⟩, h2⟩
  rw [Lib.toList_data]
  exact trimS_v _
theorem empty_txt (t : ByteArray) : (t = ⟨#[]⟩) = (t.toList.isEmpty = true) := by
  rw [Lib.toList_data]
  cases t with
  | mk d => simp
set_option maxHeartbeats 2000000 in
theorem implPutVars_any (f s : ByteArray) (hf : f.size ≤ 9223372036854775807) (hs : s.size ≤ 9223372036854775807) (w : World) :
    Calls Tryd.prog 40 #[.string f, .string s] w fun e w' => e = .returned (shortV (pvRes f s)) ∧ Below w.heap.size w w' := by
  obtain ⟨R, hR⟩ : ∃ R, pvRes f s = R := ⟨_, rfl⟩
  rw [hR]
  go_enter Tryd.func40, Tryd.ntmps40
  go_wp2_with fail
  refine (parseFormula_any f _ hf).mono ?_
  rintro en w1 ⟨hb1, hor⟩
  have HB1 := Lib.hid hb1
  clear hb1
  rcases hor with ⟨hr, rfl⟩ | ⟨φ, p, hr, rfl, ht⟩
  · have HV : Hid (shortV R = .tuple #[.string ⟨#[]⟩, .bool false]) := by show _ = _; rw [← hR, pv_none hr]; rfl
    clear hr hR
    go_wp2_with fail
    go_ret2
    exact ⟨congrArg Ending.returned HV.out.symm, HB1.out⟩
  · by_cases h4 : (s.size : Int) = 4
    · have HTR := Lib.hid (fun w => trim_v s w hs)
      have hsz : s.size = 4 := by omega
      obtain ⟨B, hB⟩ : ∃ b, s.data.toList.all isV = b := ⟨_, rfl⟩
      rw [hB] at HTR
      have h4B : ((s.size : Int) != 4) = false := by rw [bne_eq_false_iff_eq]; exact h4
      have HT := Lib.hid ht
      have HPV := Lib.hid (pv_some (s := s) hr)
      have HL := Lib.hid (read_len hr).1
      cases B
      · have HV : Hid (shortV R = .tuple #[.string ⟨#[]⟩, .bool false]) := by
          show _ = _
          rw [← hR, HPV.out, if_neg (by unfold varsOk; rw [hB]; simp)]; rfl
        clear hr hR ht hB HPV
        unfold ptrV
        go_wp2_with fail
        refine (HTR.out _).mono ?_; rintro e w2 ⟨⟨t, rfl, hte⟩, hb2⟩
        have HB2 := Lib.hid (HB1.out.trans (hb2.mono HB1.out.size))
        have hne : ¬ t = ⟨#[]⟩ := by rw [empty_txt, hte]; simp
        have hte2 : (!t.toList.isEmpty) = true := by rw [hte]; rfl
        clear hb2 hte
        go_wp2_with fail
        go_ret2
        exact ⟨congrArg Ending.returned HV.out.symm, HB2.out⟩
      · have hok : varsOk s = true := by unfold varsOk; rw [hB, decide_eq_true hsz]; rfl
        have HV : Hid (R = Fm.putG none φ (mapOf s)) := by
          show _ = _
          rw [← hR, HPV.out, if_pos hok, Fm.putG_none]
        have HBY := Lib.hid (ok_bytes hok).2
        clear hr hR ht hB HPV hok
        unfold ptrV
        go_wp2_with fail
        refine (HTR.out _).mono ?_; rintro e w2 ⟨⟨t, rfl, hte⟩, hb2⟩
        have HB2 := Lib.hid (HB1.out.trans (hb2.mono HB1.out.size))
        have HT2 := Lib.hid (HT.out.below hb2)
        obtain rfl : t = ⟨#[]⟩ := by rw [empty_txt, hte]
        clear hb2 hte HTR
        go_upto_region 5 with fail
        obtain ⟨W0, hW0⟩ : ∃ W0, w2.alloc (.cells #[.pointer none, .pointer none] 126) = W0 := ⟨_, rfl⟩
        have H00 : W0.heap[w2.heap.size]? = some (.cells #[.pointer none, .pointer none] 126 (0, 0)) := by rw [← hW0]; exact heap_alloc_new _ _
        have HBW0 : Below w2.heap.size w2 W0 := by rw [← hW0]; exact (Below.refl _ _).alloc (Nat.le_refl _) _
        have hlt0 : w2.heap.size < W0.heap.size := by rw [← hW0]; simp
        rw [hW0]
        obtain ⟨W1, hW1⟩ : ∃ W1, Lib.bytesWorld W0.drew 5 s = W1 := ⟨_, rfl⟩
        have cs := Lib.run_convert_string_bytes (P := Tryd.prog) W0.drew 9 22 5 s Tryd.underlying9 Tryd.underlying22 Tryd.underlying5
        rw [hW1, hsz] at cs
        replace cs : (convert 9 22 (.string s)).run Tryd.prog W0.drew = .ok (.slice (some ⟨W0.heap.size, 0, none⟩) 4 (grownCap W0.drew 4 0 5)) W1 := cs
        have HBW1 : Below W0.heap.size W0 W1 := by
          rw [← hW1]
          exact ⟨rfl, rfl, rfl, by rw [Lib.bytesWorld_size]; show W0.heap.size ≤ W0.heap.size + 1; omega, fun k hk => Lib.bytesWorld_at_old _ _ _ _ hk⟩
        have ap := run_arrayAt (P := Tryd.prog) W1 128 _ 4 (some ⟨W0.heap.size, 0, none⟩) 4 (grownCap W0.drew 4 0 5) Tryd.underlying128 (Nat.le_refl 4)
        have dd : ∀ x : Fin 4, W1.cell? ⟨W0.heap.size, x.val, none⟩ = some (.int .u8 (bAt (mapOf s) x)) := fun x => by
          rw [← hW1]
          exact (Lib.bytesWorld_cell _ _ _ _ (by have := x.isLt; omega)).trans (by rw [HBY.out x])
        have d0 : W1.cell? ⟨W0.heap.size, 0, none⟩ = some (.int .u8 (bAt (mapOf s) 0)) := dd 0
        have d1 : W1.cell? ⟨W0.heap.size, 1, none⟩ = some (.int .u8 (bAt (mapOf s) 1)) := dd 1
        have d2 : W1.cell? ⟨W0.heap.size, 2, none⟩ = some (.int .u8 (bAt (mapOf s) 2)) := dd 2
        have d3 : W1.cell? ⟨W0.heap.size, 3, none⟩ = some (.int .u8 (bAt (mapOf s) 3)) := dd 3
        have H10 : W1.heap[w2.heap.size]? = some (.cells #[.pointer none, .pointer none] 126 (0, 0)) := (HBW1.block _ hlt0).trans H00
        have q0 : W0.cell? ⟨w2.heap.size, 0, none⟩ = some (.pointer none) := by unfold World.cell?; rw [H00]; rfl
        have q1 : W0.cell? ⟨w2.heap.size, 1, none⟩ = some (.pointer none) := by unfold World.cell?; rw [H00]; rfl
        have u0 : W1.cell? ⟨w2.heap.size, 0, none⟩ = some (.pointer none) := by unfold World.cell?; rw [H10]; rfl
        have u1 : W1.cell? ⟨w2.heap.size, 1, none⟩ = some (.pointer none) := by unfold World.cell?; rw [H10]; rfl
        have HB3 := Lib.hid ((HB2.out.trans (HBW0.mono HB2.out.size)).trans (HBW1.mono (Nat.le_trans HB2.out.size (Nat.le_of_lt hlt0))))
        have HT3 := Lib.hid ((HT2.out.below HBW0).below HBW1)
        have HCP : Hid (Calls Tryd.prog 110 #[.agg #[.pointer none, .pointer none], .pointer (some ⟨p, 0, none⟩), .agg #[.int .u8 (bAt (mapOf s) 0), .int .u8 (bAt (mapOf s) 1), .int .u8 (bAt (mapOf s) 2), .int .u8 (bAt (mapOf s) 3)]] W1 fun e w' => e = .returned (putVal (Fm.putG none φ (mapOf s))) ∧ Below W1.heap.size W1 w') :=
          put_plain φ HL.out _ _ p (mapOf s) _ _ HT3.out (.inl ⟨rfl, rfl, rfl⟩)
        clear dd hW1 hW0 HBW0 HBW1 hsz h4 hlt0 HT2 HT HBY
        have HSZ : Hid (∀ r, Fm.putG none φ (mapOf s) = some r → (Fm.text r).length ≤ 16000000) := fun r hr => Fm.putG_size (fun q hq => by cases hq) HL.out hr
        obtain ⟨r, hr⟩ : ∃ r, Fm.putG none φ (mapOf s) = r := ⟨_, rfl⟩
        have HV2 : R = r := HV.out.trans hr
        clear HV
        subst HV2
        rw [hr] at HCP HSZ
        clear hr HL HT3
        obtain ⟨s2, b2, hv, hs2, hsv⟩ : ∃ s b2, putVal R = .tuple #[.string s, .bool b2] ∧ s.size ≤ 16000000 ∧ (if b2 = true ∧ s.size ≤ 4000 then (.tuple #[.string s, .bool true] : Value) else .tuple #[.string ⟨#[]⟩, .bool false]) = shortV R := by
          cases R with
          | none => exact ⟨ByteArray.empty, false, rfl, by simp, by rw [if_neg (by simp)]; rfl⟩
          | some ψ' =>
            refine ⟨_, true, rfl, by rw [txtS_size]; exact HSZ.out _ rfl, ?_⟩
            rw [txtS_size]
            unfold shortV
            by_cases h : (Fm.text ψ').length ≤ 4000
            · rw [if_pos ⟨rfl, h⟩]; simp only [if_pos h]
            · rw [if_neg (fun h' => h h'.2)]; simp only [if_neg h]
        rw [hv] at HCP
        have HSF := Lib.hid (fun w => shortFormula_any s2 b2 _ hsv w (by omega))
        obtain ⟨s3, b3, hsf⟩ := short_form R
        have HSE := Lib.hid hsf
        rw [hsf] at HSF
        clear hsf hv hsv HSZ
        generalize mapOf s = mm at *
        go_region_with (first | ((with_reducible refine HCP.out.mono ?_); rintro e w3 ⟨rfl, hb3⟩; have HB4 := Lib.hid (HB3.out.trans (hb3.mono HB3.out.size)); clear hb3))
        all_goals go_wp2_with fail
        all_goals (refine (HSF.out _).mono ?_; rintro e w4 ⟨rfl, hw4⟩; rw [hw4]; clear hw4 w4)
        all_goals go_wp2_with fail
        all_goals go_ret2
        all_goals exact ⟨congrArg Ending.returned HSE.out.symm, HB4.out⟩
    · have HV : Hid (shortV R = .tuple #[.string ⟨#[]⟩, .bool false]) := by
        show _ = _
        rw [← hR, pv_some hr, if_neg (by unfold varsOk; rw [decide_eq_false (by omega)]; simp)]; rfl
      have h4B : ((s.size : Int) != 4) = true := by rw [bne_iff_ne]; exact h4
      clear hr hR ht
      unfold ptrV
      go_wp2_with fail
      go_ret2
      exact ⟨congrArg Ending.returned HV.out.symm, HB1.out⟩
/-- What the reference has read of the variables' text. -/
structure Pl (w wr : World) (s : ByteArray) (M : Array Value) : Prop where
  box : wr.heap[w.heap.size]? = some (.cells M 90 (0, 0))
  low : w.heap.size < wr.heap.size
  old : Below w.heap.size w wr
theorem Pl.cells {w wr : World} {s : ByteArray} {M : Array Value} (h : Pl w wr s M) (i : Nat) (v : Value) (hv : M[i]? = some v) : wr.cell? ⟨w.heap.size, i, none⟩ = some v := by
  unfold World.cell?; rw [h.box]; exact hv
theorem Pl.below {w wr w' : World} {s : ByteArray} {M : Array Value} (h : Pl w wr s M) (hb : Below wr.heap.size wr w') : Pl w w' s M :=
  ⟨(hb.block _ h.low).trans h.box, Nat.lt_of_lt_of_le h.low hb.size, h.old.trans (hb.mono h.old.size)⟩
theorem Pl.put {w wr : World} {s : ByteArray} {M : Array Value} (h : Pl w wr s M) (k : Nat) (v : Value) : Pl w (wr.setCell ⟨w.heap.size, k, none⟩ v) s (M.setIfInBounds k v) :=
  ⟨by simp [World.setCell, Array.getElem?_modify, h.box], by have := h.low; simp; omega, h.old.setCell (by simp) _⟩
def zc (s : ByteArray) (k i : Nat) : Value := .int .i64 (if i < k then ztI s i else 0)
def zmap (s : ByteArray) (k : Nat) : Array Value := #[zc s k 0, zc s k 1, zc s k 2, zc s k 3]
theorem zmap_zero (s : ByteArray) : zmap s 0 = #[.int .i64 0, .int .i64 0, .int .i64 0, .int .i64 0] := rfl
theorem zmap_set (s : ByteArray) (k : Nat) (hk : k < 4) : (zmap s k).setIfInBounds k (.int .i64 (ztI s k)) = zmap s (k + 1) := by
  rcases (by omega : k = 0 ∨ k = 1 ∨ k = 2 ∨ k = 3) with rfl | rfl | rfl | rfl <;> rfl
theorem zmap_four {s : ByteArray} (h : varsOk s = true) : zmap s 4 = mapC (mapOf s) := by
  have h4 := (ok_bytes h).1
  have hz := (ok_iff h4).1 h
  have e0 := zt_map (s := s) (j := 0) (by decide) (hz 0 (by decide))
  have e1 := zt_map (s := s) (j := 1) (by decide) (hz 1 (by decide))
  have e2 := zt_map (s := s) (j := 2) (by decide) (hz 2 (by decide))
  have e3 := zt_map (s := s) (j := 3) (by decide) (hz 3 (by decide))
  unfold zmap zc mapC
  simp only [if_pos (show 0 < 4 by decide), if_pos (show 1 < 4 by decide), if_pos (show 2 < 4 by decide), if_pos (show 3 < 4 by decide)]
  rw [e0, e1, e2, e3]
  rfl
set_option maxHeartbeats 2000000 in
theorem specPutVars_any (f s : ByteArray) (hf : f.size ≤ 9223372036854775807) (hs : s.size ≤ 9223372036854775807) (w : World) :
    Calls Tryd.prog 41 #[.string f, .string s] w fun e w' => e = .returned (shortV (pvRes f s)) ∧ Below w.heap.size w w' := by
  have HFV := Lib.hid (fun w => FormulaValid_any f w hf)
  obtain ⟨R, hR⟩ : ∃ R, pvRes f s = R := ⟨_, rfl⟩
  rw [hR]
  cases hr : readB f with
  | none =>
    have HV : Hid (shortV R = .tuple #[.string ⟨#[]⟩, .bool false]) := by show _ = _; rw [← hR, pv_none hr]; rfl
    rw [hr] at HFV
    clear hr hR
    go_enter Tryd.func41, Tryd.ntmps41
    go_wp2_with fail
    refine (HFV.out _).mono ?_; rintro _ wv ⟨rfl, hwv⟩; rw [hwv]; clear hwv wv
    go_wp2_with fail
    go_ret2
    exact ⟨congrArg Ending.returned HV.out.symm, (Below.refl _ _).alloc (Nat.le_refl _) _⟩
  | some φ =>
    rw [hr] at HFV
    by_cases h4 : (s.size : Int) = 4
    · have hsz : s.size = 4 := by omega
      have HLV := Lib.hid (fun (a : Nat) w => l2Var_any s (a : Int) a w rfl (by omega))
      have HNO : Hid (varsOk s = false → shortV R = .tuple #[.string ⟨#[]⟩, .bool false]) := fun h => by rw [← hR, pv_some hr, if_neg (by rw [h]; simp)]; rfl
      have HIF := Lib.hid (ok_iff hsz)
      have HZF := Lib.hid (@zmap_four s)
      have HYES : Hid (varsOk s = true → R = Fm.putG none φ (mapOf s)) := fun h => by rw [← hR, pv_some hr, if_pos h, Fm.putG_none]
      have a0 := readO_at hr
      have HC := Lib.hid (fun w => l11Put_any f (by have := a0.2; omega) none ⟨#[]⟩ ⟨#[]⟩ 1 vok_none φ 0 0 (mapOf s) w rfl a0.1)
      have hlen : Fm.len φ ≤ 4000 := (read_len hr).1
      have h4B : ((s.size : Int) != 4) = false := by rw [bne_eq_false_iff_eq]; exact h4
      have HPL : Hid (Pl w (w.alloc (.cells #[.int .i64 0, .int .i64 0, .int .i64 0, .int .i64 0] 90)) s (zmap s 0)) := ⟨heap_alloc_new _ _, by simp, (Below.refl _ _).alloc (Nat.le_refl _) _⟩
      clear hr hR a0 hsz hs hf
      go_enter Tryd.func41, Tryd.ntmps41
      go_wp2_with fail
      refine (HFV.out _).mono ?_; rintro _ wv ⟨rfl, hwv⟩; rw [hwv]; clear hwv wv
      go_wp2_with fail
      go_loopw [7] (fun q wr => ∃ j : Nat, j ≤ 4 ∧ q = .int .i64 (j : Int) ∧ Hid (Pl w wr s (zmap s j)) ∧ Hid (∀ i, i < j → 0 ≤ ztI s i)) (fun q _ => 4 - (intOf q).toNat)
      case atStart => exact ⟨0, by omega, rfl, HPL.out, fun i hi => absurd hi (Nat.not_lt_zero _)⟩
      case round =>
        clear HPL
        obtain ⟨j, hj, rfl, HX, HZ⟩ := hrel
        by_cases hlt : j < 4
        · have hltI : (j : Int) < 4 := by omega
          have hj0 : (0 : Int) ≤ (j : Int) := by omega
          go_wp2_with fail
          refine (HLV.out _ _).mono ?_; rintro _ wv ⟨rfl, hwv⟩; rw [hwv]; clear hwv wv
          have HX2 : Hid (Pl w (wr.setCell ⟨w.heap.size, j, none⟩ (.int .i64 (ztI s j))) s (zmap s (j + 1))) := by
            have := HX.out.put j (.int .i64 (ztI s j)); rw [zmap_set s j hlt] at this; exact this
          have HE : Fm.varI (s.data.toList.drop j) = ztI s j := rfl
          rw [HE]
          have hrd : (wr.setCell ⟨w.heap.size, j, none⟩ (.int .i64 (ztI s j))).cell? ⟨w.heap.size, j, none⟩ = some (.int .i64 (ztI s j)) := HX2.out.cells j _ (by
            rcases (by omega : j = 0 ∨ j = 1 ∨ j = 2 ∨ j = 3) with rfl | rfl | rfl | rfl <;> rfl)
          have hold := HX.out.cells j (zc s j j) (by
            rcases (by omega : j = 0 ∨ j = 1 ∨ j = 2 ∨ j = 3) with rfl | rfl | rfl | rfl <;> rfl)
          have hfz : wr.frozen? ⟨w.heap.size, j, none⟩ = false := by unfold World.frozen?; rw [HX.out.box]; simp
          clear HE
          by_cases hz : ztI s j < 0
          · have HV := Lib.hid (HNO.out (by rw [Bool.eq_false_iff]; intro h; have := HIF.out.1 h j hlt; omega))
            clear HZ HNO HIF HZF HYES HC HX
            go_wp2_with fail
            go_ret2
            exact ⟨congrArg Ending.returned HV.out.symm, HX2.out.old⟩
          · have hz0 : 0 ≤ ztI s j := by omega
            have HZ2 : Hid (∀ i, i < j + 1 → 0 ≤ ztI s i) := fun i hi => by
              by_cases e : i = j
              · rw [e]; exact hz0
              · exact HZ.out i (by omega)
            clear HZ HX
            go_wp2_with fail
            go_roundw
            case rel => exact ⟨j + 1, by omega, by go_num, HX2, HZ2⟩
            case measure => simp [intOf]; omega
        · have hj4 : j = 4 := by omega
          have hltI : ¬ (j : Int) < 4 := by omega
          rw [hj4] at HX HZ
          have hok : varsOk s = true := HIF.out.2 HZ.out
          have HPM : Hid (Pl w wr s (mapC (mapOf s))) := by have := HX.out; rw [HZF.out hok] at this; exact this
          have HRR := HYES.out hok
          rw [← HRR] at HC
          generalize mapOf s = mm at *
          clear HX HZ HNO HIF HZF HYES HRR hok hlt
          have c0 := HPM.out.cells 0 _ rfl
          have c1 := HPM.out.cells 1 _ rfl
          have c2 := HPM.out.cells 2 _ rfl
          have c3 := HPM.out.cells 3 _ rfl
          unfold mapV viewsV at HC
          go_wp2_with fail
          refine (HC.out _).mono ?_; rintro _ w3 ⟨s, b, rfl, hlr, hs, hb3⟩
          have HB3 := Lib.hid (HPM.out.old.trans (hb3.mono HPM.out.old.size))
          have HSF := Lib.hid (fun w => l11Result_any s b _ (short_of hlr) w (by omega))
          obtain ⟨s3, b3, hsf⟩ := short_form R
          rw [hsf] at HSF
          have HSV := Lib.hid hsf
          clear hb3 hlr hsf
          generalize (0 + Fm.len φ) = E at *
          go_wp2_with fail
          refine (HSF.out _).mono ?_; rintro _ w4 ⟨rfl, hw4⟩; rw [hw4]; clear hw4 w4
          go_wp2_with fail
          go_ret2
          exact ⟨congrArg Ending.returned HSV.out.symm, HB3.out⟩
    · have HV : Hid (shortV R = .tuple #[.string ⟨#[]⟩, .bool false]) := by
        show _ = _
        rw [← hR, pv_some hr, if_neg (by unfold varsOk; rw [decide_eq_false (by omega)]; simp)]; rfl
      clear hr hR
      go_enter Tryd.func41, Tryd.ntmps41
      go_wp2_with fail
      refine (HFV.out _).mono ?_; rintro _ wv ⟨rfl, hwv⟩; rw [hwv]; clear hwv wv
      go_wp2_with fail
      go_ret2
      exact ⟨congrArg Ending.returned HV.out.symm, (Below.refl _ _).alloc (Nat.le_refl _) _⟩
end Go.Proofs.YtmabpmkkleelaaaDoor
