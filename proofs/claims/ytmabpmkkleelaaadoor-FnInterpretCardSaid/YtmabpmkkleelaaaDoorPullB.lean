/- PullBack of the program and of the reference. Condition: the texts' lengths fit an integer. -/
import Derived.Test.YtmabpmkkleelaaaDoorPut2
import Derived.Test.YtmabpmkkleelaaaDoorPut3
import Derived.Test.YtmabpmkkleelaaaDoorViewOf
import Derived.Test.YtmabpmkkleelaaaDoorOkV
import Derived.Laws.ResultCell
import Derived.Lib.SlBytesConst
import Derived.Laws.Cover3
namespace Go.Proofs.YtmabpmkkleelaaaDoor
open Go.RowKit
set_option linter.unusedVariables false
set_option maxRecDepth 100000

/-- What is told of a text that is put: it, if it is not too long. -/
def shortV (r : Option Fm.T) : Value := match r with
  | none => .tuple #[.string ⟨#[]⟩, .bool false]
  | some ψ => if (Fm.text ψ).length ≤ 4000 then .tuple #[.string (txtS (Fm.text ψ)), .bool true] else .tuple #[.string ⟨#[]⟩, .bool false]
theorem shortFormula_any (s : ByteArray) (b : Bool) (R : Value) (hR : (if b = true ∧ s.size ≤ 4000 then (.tuple #[.string s, .bool true] : Value) else .tuple #[.string ⟨#[]⟩, .bool false]) = R) (w : World) (hs : s.size ≤ 9223372036854775807) :
    Calls Tryd.prog 111 #[.string s, .bool b] w fun e w' => e = .returned R ∧ w' = w := by
  by_cases h : s.size ≤ 4000
  · have hI : ¬ ((4000 : Int) < (s.size : Int)) := by omega
    cases b
    · have HE : Hid (R = .tuple #[.string ⟨#[]⟩, .bool false]) := by show _ = _; rw [← hR]; exact if_neg (by simp)
      clear hR h
      go_enter Tryd.func111, Tryd.ntmps111
      go_wp2_with fail
      go_ret2
      exact ⟨congrArg Ending.returned HE.out.symm, rfl⟩
    · have HE : Hid (R = .tuple #[.string s, .bool true]) := by show _ = _; rw [← hR]; exact if_pos ⟨rfl, h⟩
      clear hR h
      go_enter Tryd.func111, Tryd.ntmps111
      go_wp2_with fail
      go_ret2
      exact ⟨congrArg Ending.returned HE.out.symm, rfl⟩
  · have hI : ((4000 : Int) < (s.size : Int)) := by omega
    have HE : Hid (R = .tuple #[.string ⟨#[]⟩, .bool false]) := by show _ = _; rw [← hR]; exact if_neg (fun h' => h h'.2)
    clear hR h
    cases b
    all_goals
      go_enter Tryd.func111, Tryd.ntmps111
      go_wp2_with fail
      go_ret2
      exact ⟨congrArg Ending.returned HE.out.symm, rfl⟩
theorem l11Result_any (s : ByteArray) (b : Bool) (R : Value) (hR : (if b = true ∧ s.size ≤ 4000 then (.tuple #[.string s, .bool true] : Value) else .tuple #[.string ⟨#[]⟩, .bool false]) = R) (w : World) (hs : s.size ≤ 9223372036854775807) :
    Calls Tryd.prog 75 #[.string s, .bool b] w fun e w' => e = .returned R ∧ w' = w := by
  by_cases h : s.size ≤ 4000
  · have hI : ¬ ((4000 : Int) < (s.size : Int)) := by omega
    cases b
    · have HE : Hid (R = .tuple #[.string ⟨#[]⟩, .bool false]) := by show _ = _; rw [← hR]; exact if_neg (by simp)
      clear hR h
      go_enter Tryd.func75, Tryd.ntmps75
      go_wp2_with fail
      go_ret2
      exact ⟨congrArg Ending.returned HE.out.symm, rfl⟩
    · have HE : Hid (R = .tuple #[.string s, .bool true]) := by show _ = _; rw [← hR]; exact if_pos ⟨rfl, h⟩
      clear hR h
      go_enter Tryd.func75, Tryd.ntmps75
      go_wp2_with fail
      go_ret2
      exact ⟨congrArg Ending.returned HE.out.symm, rfl⟩
  · have hI : ((4000 : Int) < (s.size : Int)) := by omega
    have HE : Hid (R = .tuple #[.string ⟨#[]⟩, .bool false]) := by show _ = _; rw [← hR]; exact if_neg (fun h' => h h'.2)
    clear hR h
    cases b
    all_goals
      go_enter Tryd.func75, Tryd.ntmps75
      go_wp2_with fail
      go_ret2
      exact ⟨congrArg Ending.returned HE.out.symm, rfl⟩
theorem short_of {r : Option Fm.T} {s : ByteArray} {b : Bool} (h : LR r s b) : (if b = true ∧ s.size ≤ 4000 then (.tuple #[.string s, .bool true] : Value) else .tuple #[.string ⟨#[]⟩, .bool false]) = shortV r := by
  rcases h with ⟨rfl, rfl⟩ | ⟨ψ, rfl, rfl, rfl⟩
  · rw [if_neg (by simp)]; rfl
  · unfold shortV
    rw [tS_size]
    by_cases h : (Fm.text ψ).length ≤ 4000
    · rw [if_pos ⟨rfl, h⟩]; simp only [if_pos h]; rfl
    · rw [if_neg (fun h' => h h'.2)]; simp only [if_neg h]
theorem short_form (r : Option Fm.T) : ∃ s b, shortV r = .tuple #[.string s, .bool b] := by
  cases r with
  | none => exact ⟨_, _, rfl⟩
  | some ψ =>
    unfold shortV
    by_cases h : (Fm.text ψ).length ≤ 4000
    · simp only [if_pos h]; exact ⟨_, _, rfl⟩
    · simp only [if_neg h]; exact ⟨_, _, rfl⟩
/-- What PullBack returns. -/
def pbRes (h f g : ByteArray) : Option Fm.T :=
  match readB h, viewB f g with
  | some χ, some (φ, ψ) => Fm.putG (some (φ, ψ)) χ id
  | _, _ => none
theorem pb_none1 {h f g : ByteArray} (e : readB h = none) : pbRes h f g = none := by unfold pbRes; rw [e]
theorem pb_none2 {h f g : ByteArray} (e : viewB f g = none) : pbRes h f g = none := by unfold pbRes; rw [e]; cases readB h <;> rfl
theorem pb_some {h f g : ByteArray} {χ φ ψ : Fm.T} (e : readB h = some χ) (e2 : viewB f g = some (φ, ψ)) : pbRes h f g = Fm.putG (some (φ, ψ)) χ id := by unfold pbRes; rw [e, e2]
theorem read_len {f : ByteArray} {φ : Fm.T} (h : readB f = some φ) : (Fm.text φ).length ≤ 4000 ∧ f.data.toList = Fm.text φ := by
  have := (Fm.read_iff (s := f.data.toList)).1 h
  rw [← this.1]; exact ⟨this.2, rfl⟩
theorem viewB_reads {f g : ByteArray} {φ ψ : Fm.T} (h : viewB f g = some (φ, ψ)) : readB f = some φ ∧ readB g = some ψ := by
  unfold viewB at h
  cases hf : readB f with
  | none => rw [hf] at h; cases h
  | some φ' =>
    cases hg : readB g with
    | none => rw [hf, hg] at h; cases h
    | some ψ' =>
      rw [hf, hg] at h
      simp only at h
      by_cases hz : Fm.free φ' / 2 = 0 ∧ Fm.free ψ' / 4 = 0
      · rw [if_pos hz] at h
        injection h with h
        injection h with h1 h2
        exact ⟨by rw [h1], by rw [h2]⟩
      · rw [if_neg hz] at h; cases h
theorem slice_arr (w : World) (g : Nat) (h : w.heap[g]? = some (.cells #[.int .u8 97, .int .u8 98, .int .u8 99, .int .u8 100] 5 (0, 0))) : True := trivial

theorem implpullBack_any (χ φ ψ : Fm.T) (F : Nat → Prop) (w : World) (p a b : Nat) (h0 : (Fm.text χ).length ≤ 4000) (h1 : (Fm.text φ).length ≤ 4000) (h2 : (Fm.text ψ).length ≤ 4000) (ht : Tree F w χ p) (ha : Tree F w φ a) (hb : Tree F w ψ b) :
    Calls Tryd.prog 70 #[ptrV p, ptrV a, ptrV b] w fun e w' => e = .returned (shortV (Fm.putG (some (φ, ψ)) χ id)) ∧ Below w.heap.size w w' := by
  obtain ⟨W, hW⟩ : ∃ W, w.alloc (.cells #[.int .u8 97, .int .u8 98, .int .u8 99, .int .u8 100] 5 (4, 5)) = W := ⟨_, rfl⟩
  have al : Below w.heap.size w W := by rw [← hW]; exact (Below.refl _ _).alloc (Nat.le_refl _) _
  have HC : Hid (Calls Tryd.prog 110 #[.agg #[.pointer (some ⟨a, 0, none⟩), .pointer (some ⟨b, 0, none⟩)], .pointer (some ⟨p, 0, none⟩), .agg #[.int .u8 97, .int .u8 98, .int .u8 99, .int .u8 100]] W fun e w' => e = .returned (putVal (Fm.putG (some (φ, ψ)) χ id)) ∧ Below W.heap.size W w') :=
    put_view φ ψ χ h1 h2 h0 F _ p id _ _ (ht.below al) (.inr ⟨φ, ψ, a, b, rfl, rfl, rfl, ha.below al, hb.below al⟩)
  have HA := Lib.hid al
  have HSZ : Hid (∀ r, Fm.putG (some (φ, ψ)) χ id = some r → (Fm.text r).length ≤ 16000000) := fun r hr => Fm.putG_size (fun q hq => by injection hq with hq; subst hq; exact ⟨h1, h2⟩) h0 hr
  clear ht ha hb al h0 h1 h2
  generalize Fm.putG (some (φ, ψ)) χ id = r at *
  obtain ⟨s, b2, hv, hs, hsv⟩ : ∃ s b2, putVal r = .tuple #[.string s, .bool b2] ∧ s.size ≤ 16000000 ∧ (if b2 = true ∧ s.size ≤ 4000 then (.tuple #[.string s, .bool true] : Value) else .tuple #[.string ⟨#[]⟩, .bool false]) = shortV r := by
    cases r with
    | none => exact ⟨ByteArray.empty, false, rfl, by simp, by rw [if_neg (by simp)]; rfl⟩
    | some ψ' =>
      refine ⟨_, true, rfl, by rw [txtS_size]; exact HSZ.out _ rfl, ?_⟩
      rw [txtS_size]
      unfold shortV
      by_cases h : (Fm.text ψ').length ≤ 4000
      · rw [if_pos ⟨rfl, h⟩]; simp only [if_pos h]
      · rw [if_neg (fun h' => h h'.2)]; simp only [if_neg h]
  rw [hv] at HC
  have HSF := Lib.hid (fun w => shortFormula_any s b2 _ hsv w (by omega))
  obtain ⟨s3, b3, hsf⟩ := short_form r
  rw [hsf] at HSF ⊢
  clear hsf hv hsv HSZ
  have cs := Lib.run_convert_bytes_const (P := Tryd.prog) w 22 5 #[.int .u8 97, .int .u8 98, .int .u8 99, .int .u8 100] 4 4 Tryd.underlying22 Tryd.underlying5
  replace cs : (convert 22 22 (.slice (some ⟨w.heap.size, 0, none⟩) 4 4)).run Tryd.prog (w.alloc (.cells #[.int .u8 97, .int .u8 98, .int .u8 99, .int .u8 100] 5)) = .ok (.slice (some ⟨w.heap.size, 0, none⟩) 4 4) W := by rw [← hW]; exact cs
  have ap := run_arrayAt (P := Tryd.prog) W 128 _ 4 (some ⟨w.heap.size, 0, none⟩) 4 4 Tryd.underlying128 (Nat.le_refl 4)
  have dd : ∀ k v, (#[.int .u8 97, .int .u8 98, .int .u8 99, .int .u8 100] : Array Value)[k]? = some v → W.cell? ⟨w.heap.size, k, none⟩ = some v := fun k v hk => by
    rw [← hW]
    unfold World.cell?
    rw [heap_alloc_new]
    exact hk
  have d0 := dd 0 _ rfl
  have d1 := dd 1 _ rfl
  have d2 := dd 2 _ rfl
  have d3 := dd 3 _ rfl
  clear dd hW
  unfold ptrV
  go_enter Tryd.func70, Tryd.ntmps70
  go_wp2_with fail
  refine HC.out.mono ?_; rintro e w2 ⟨rfl, hb2⟩
  have HB2 := Lib.hid (HA.out.trans (hb2.mono HA.out.size))
  clear hb2
  go_wp2_with fail
  refine (HSF.out _).mono ?_; rintro e w3 ⟨rfl, hw3⟩; rw [hw3]; clear hw3 w3
  go_wp2_with fail
  go_ret2
  exact ⟨rfl, HB2.out⟩
set_option maxHeartbeats 1000000 in
theorem implPullBack_any (h f g : ByteArray) (hh : h.size ≤ 9223372036854775807) (hf : f.size ≤ 9223372036854775807) (hg : g.size ≤ 9223372036854775807) (w : World) :
    Calls Tryd.prog 15 #[.string h, .string f, .string g] w fun e w' => e = .returned (shortV (pbRes h f g)) ∧ Below w.heap.size w w' := by
  obtain ⟨R, hR⟩ : ∃ R, pbRes h f g = R := ⟨_, rfl⟩
  rw [hR]
  go_enter Tryd.func15, Tryd.ntmps15
  go_wp2_with fail
  refine (viewOf_any f g hf hg _).mono ?_
  rintro en w1 ⟨hb1, hor⟩
  have HB1 := Lib.hid hb1
  clear hb1
  rcases hor with ⟨hr, rfl⟩ | ⟨φ, ψ, p, q, hr, rfl, ht, ht2⟩
  · have HV : Hid (shortV R = .tuple #[.string ⟨#[]⟩, .bool false]) := by show _ = _; rw [← hR, pb_none2 hr]; rfl
    clear hr hR
    go_wp2_with fail
    refine (parseFormula_any h _ hh).mono ?_
    rintro en w2 ⟨hb2, hor⟩
    have HB2 := Lib.hid (HB1.out.trans (hb2.mono HB1.out.size))
    clear hb2
    rcases hor with ⟨_, rfl⟩ | ⟨χ, n, _, rfl, ht⟩
    · go_wp2_with fail
      go_ret2
      exact ⟨congrArg Ending.returned HV.out.symm, HB2.out⟩
    · clear ht
      unfold ptrV
      go_wp2_with fail
      go_ret2
      exact ⟨congrArg Ending.returned HV.out.symm, HB2.out⟩
  · have HT := Lib.hid ht
    have HT2 := Lib.hid ht2
    have HR := Lib.hid hr
    clear ht ht2 hr
    unfold ptrV
    go_wp2_with fail
    refine (parseFormula_any h _ hh).mono ?_
    rintro en w2 ⟨hb2, hor⟩
    have HB2 := Lib.hid (HB1.out.trans (hb2.mono HB1.out.size))
    rcases hor with ⟨he, rfl⟩ | ⟨χ, n, he, rfl, ht⟩
    · have HV : Hid (shortV R = .tuple #[.string ⟨#[]⟩, .bool false]) := by show _ = _; rw [← hR, pb_none1 he]; rfl
      clear he hR hb2
      go_wp2_with fail
      go_ret2
      exact ⟨congrArg Ending.returned HV.out.symm, HB2.out⟩
    · have v := viewB_reads HR.out
      have HC := Lib.hid (implpullBack_any χ φ ψ (fun _ => True) w2 n p q (read_len he).1 (read_len v.1).1 (read_len v.2).1 (ht.mono (fun _ _ => trivial)) ((HT.out.below hb2).mono (fun _ _ => trivial)) ((HT2.out.below hb2).mono (fun _ _ => trivial)))
      have hRR := hR.symm.trans (pb_some he HR.out)
      rw [← hRR] at HC
      obtain ⟨s, b, hsf⟩ := short_form R
      rw [hsf] at HC
      have HSF := Lib.hid hsf
      unfold ptrV at HC
      clear hRR hR he v ht hb2 hsf
      unfold ptrV
      go_wp2_with fail
      refine HC.out.mono ?_; rintro e w3 ⟨rfl, hb3⟩
      have HB3 := Lib.hid (HB2.out.trans (hb3.mono HB2.out.size))
      clear hb3
      go_wp2_with fail
      go_ret2
      exact ⟨congrArg Ending.returned HSF.out.symm, HB3.out⟩
theorem pview_ok {f g : ByteArray} {φ ψ : Fm.T} (h : viewB f g = some (φ, ψ)) : readB f = some φ ∧ readB g = some ψ ∧ okV f 2 = true ∧ okV g 4 = true := by
  unfold viewB at h
  cases hf : readB f with
  | none => rw [hf] at h; cases h
  | some φ' =>
    cases hg : readB g with
    | none => rw [hf, hg] at h; cases h
    | some ψ' =>
      rw [hf, hg] at h
      simp only at h
      by_cases hz : Fm.free φ' / 2 = 0 ∧ Fm.free ψ' / 4 = 0
      · rw [if_pos hz] at h
        injection h with h
        injection h with h1 h2
        subst h1; subst h2
        exact ⟨rfl, rfl, by rw [okV_some hf, decide_eq_true_iff]; exact hz.1, by rw [okV_some hg, decide_eq_true_iff]; exact hz.2⟩
      · rw [if_neg hz] at h; cases h
theorem pview_no {f g : ByteArray} (h : viewB f g = none) : okV f 2 = false ∨ okV g 4 = false := by
  unfold viewB at h
  cases hf : readB f with
  | none => exact .inl (okV_none hf)
  | some φ' =>
    cases hg : readB g with
    | none => exact .inr (okV_none hg)
    | some ψ' =>
      rw [hf, hg] at h
      simp only at h
      by_cases hz : Fm.free φ' / 2 = 0 ∧ Fm.free ψ' / 4 = 0
      · rw [if_pos hz] at h; cases h
      · by_cases h1 : Fm.free φ' / 2 = 0
        · exact .inr (by rw [okV_some hg, decide_eq_false_iff_not]; exact fun h2 => hz ⟨h1, h2⟩)
        · exact .inl (by rw [okV_some hf, decide_eq_false_iff_not]; exact h1)
theorem upto1 {s : Nat} (h : s / 2 = 0) (u : Fin 4) (hu : s.testBit u.val = true) : u = 0 := by
  have hs : s = 0 ∨ s = 1 := by omega
  rcases hs with rfl | rfl
  · simp at hu
  · revert hu; revert u; decide
theorem upto2 {s : Nat} (h : s / 4 = 0) (u : Fin 4) (hu : s.testBit u.val = true) : u = 0 ∨ u = 1 := by
  have hs : s = 0 ∨ s = 1 ∨ s = 2 ∨ s = 3 := by omega
  rcases hs with rfl | rfl | rfl | rfl
  · simp at hu
  all_goals (revert hu; revert u; decide)
theorem vok_none : VOK none ⟨#[]⟩ ⟨#[]⟩ 1 := .inl ⟨rfl, rfl, rfl, rfl⟩
theorem vok_some {f g : ByteArray} {φ ψ : Fm.T} (hf : readB f = some φ) (hg : readB g = some ψ) (o1 : okV f 2 = true) (o2 : okV g 4 = true) : VOK (some (φ, ψ)) f g 4000 := by
  rw [okV_some hf, decide_eq_true_iff] at o1
  rw [okV_some hg, decide_eq_true_iff] at o2
  have a1 := readO_at hf
  have a2 := readO_at hg
  have l1 := read_len hf
  have l2 := read_len hg
  have ne : ∀ {s : ByteArray} {χ : Fm.T}, s.data.toList = Fm.text χ → s.toList.isEmpty = false := fun {s χ} h => by
    rw [Lib.toList_data, h]
    cases hx : Fm.text χ with
    | nil => have := Fm.text_pos χ; rw [hx] at this; simp at this
    | cons a l => rfl
  refine .inr ⟨φ, ψ, rfl, rfl, ne l1.2, ne l2.2, fun k w => ⟨0 + Fm.len φ, ?_⟩, fun k l w => ⟨0 + Fm.len ψ, ?_⟩⟩
  · have h := l11Put_any f (by have := a1.2; omega) none ⟨#[]⟩ ⟨#[]⟩ 1 vok_none φ 0 0 (fun i => if i = 0 then k else 0) w rfl a1.1
    rw [Fm.putG_none, Fm.put_congr φ (m' := Fm.fput id 0 k) (fun u hu => by
      obtain rfl := upto1 o1 u hu
      simp [Fm.fput])] at h
    refine (show Calls _ _ _ _ _ from h).mono fun e w' ⟨s, b, h1, h2, h3, h4⟩ => ⟨s, b, h1, h2, ?_, h4⟩
    have : Fm.len φ ≤ 4000 := l1.1
    omega
  · have h := l11Put_any g (by have := a2.2; omega) none ⟨#[]⟩ ⟨#[]⟩ 1 vok_none ψ 0 0 (fun i => if i = 0 then k else if i = 1 then l else 0) w rfl a2.1
    rw [Fm.putG_none, Fm.put_congr ψ (m' := Fm.fput (Fm.fput id 1 l) 0 k) (fun u hu => by
      rcases upto2 o2 u hu with rfl | rfl
      · simp [Fm.fput]
      · simp [Fm.fput])] at h
    refine (show Calls _ _ _ _ _ from h).mono fun e w' ⟨s, b, h1, h2, h3, h4⟩ => ⟨s, b, h1, h2, ?_, h4⟩
    have : Fm.len ψ ≤ 4000 := l2.1
    omega
theorem mapInfo : (Tryd.prog.info? 90).map (·.size) = some 4 := by kernel_rfl
theorem l11Same_any (w : World) : Calls Tryd.prog 74 #[] w fun e w' => e = .returned (.agg #[.int .i64 0, .int .i64 1, .int .i64 2, .int .i64 3]) ∧ Below w.heap.size w w' := by
  go_enter Tryd.func74, Tryd.ntmps74
  go_wp2_with fail
  refine bodyPost_ret (v := .agg #[.int .i64 0, .int .i64 1, .int .i64 2, .int .i64 3]) ?_ rfl ⟨rfl, ?_⟩
  · exact results_cell_row rfl _ _ w.heap.size 90 #[.int .i64 0, .int .i64 1, .int .i64 2, .int .i64 3] (0, 0) _ rfl (heap_alloc_new w _) Tryd.underlying90 rfl mapInfo
  · exact (Below.refl _ _).alloc (Nat.le_refl _) _
set_option maxHeartbeats 1000000 in
theorem specPullBack_any (h f g : ByteArray) (hh : h.size ≤ 9223372036854775807) (hf : f.size ≤ 9223372036854775807) (hg : g.size ≤ 9223372036854775807) (w : World) :
    Calls Tryd.prog 16 #[.string h, .string f, .string g] w fun e w' => e = .returned (shortV (pbRes h f g)) ∧ Below w.heap.size w w' := by
  have HFV := Lib.hid (fun w => FormulaValid_any h w hh)
  have HV1 := Lib.hid (fun w => l11View_1 f hf w)
  have HV2 := Lib.hid (fun w => l11View_2 g hg w)
  obtain ⟨R, hR⟩ : ∃ R, pbRes h f g = R := ⟨_, rfl⟩
  rw [hR]
  cases hr : readB h with
  | none =>
    have HV : Hid (shortV R = .tuple #[.string ⟨#[]⟩, .bool false]) := by show _ = _; rw [← hR, pb_none1 hr]; rfl
    rw [hr] at HFV
    clear hr hR
    go_enter Tryd.func16, Tryd.ntmps16
    go_wp2_with fail
    refine (HFV.out _).mono ?_; rintro _ wv ⟨rfl, hwv⟩; rw [hwv]; clear hwv wv
    go_wp2_with fail
    go_ret2
    exact ⟨congrArg Ending.returned HV.out.symm, Below.refl _ _⟩
  | some χ =>
    rw [hr] at HFV
    cases hvb : viewB f g with
    | none =>
      have HV : Hid (shortV R = .tuple #[.string ⟨#[]⟩, .bool false]) := by show _ = _; rw [← hR, pb_none2 hvb]; rfl
      have hno := pview_no hvb
      clear hr hR hvb
      generalize okV f 2 = b2 at *
      generalize okV g 4 = b3 at *
      cases b2
      · clear hno
        go_enter Tryd.func16, Tryd.ntmps16
        go_wp2_with fail
        refine (HFV.out _).mono ?_; rintro _ wv ⟨rfl, hwv⟩; rw [hwv]; clear hwv wv
        go_wp2_with fail
        refine (HV1.out _).mono ?_; rintro _ wv ⟨rfl, hwv⟩; rw [hwv]; clear hwv wv
        go_wp2_with fail
        go_ret2
        exact ⟨congrArg Ending.returned HV.out.symm, Below.refl _ _⟩
      · have hb3 : b3 = false := by
          rcases hno with h | h
          · cases h
          · exact h
        subst hb3
        clear hno
        go_enter Tryd.func16, Tryd.ntmps16
        go_wp2_with fail
        refine (HFV.out _).mono ?_; rintro _ wv ⟨rfl, hwv⟩; rw [hwv]; clear hwv wv
        go_wp2_with fail
        refine (HV1.out _).mono ?_; rintro _ wv ⟨rfl, hwv⟩; rw [hwv]; clear hwv wv
        go_wp2_with fail
        refine (HV2.out _).mono ?_; rintro _ wv ⟨rfl, hwv⟩; rw [hwv]; clear hwv wv
        go_wp2_with fail
        go_ret2
        exact ⟨congrArg Ending.returned HV.out.symm, Below.refl _ _⟩
    | some p =>
      obtain ⟨φ, ψ⟩ := p
      obtain ⟨r1, r2, o1, o2⟩ := pview_ok hvb
      have hRR := hR.symm.trans (pb_some hr hvb)
      have a0 := readO_at hr
      have l0 := read_len hr
      have HC := Lib.hid (fun w => l11Put_any h (by have := a0.2; omega) (some (φ, ψ)) f g 4000 (vok_some r1 r2 o1 o2) χ 0 0 id w rfl a0.1)
      rw [← hRR] at HC
      rw [o1] at HV1
      rw [o2] at HV2
      have hlen : Fm.len χ ≤ 4000 := l0.1
      clear hRR hR hr hvb r1 r2 o1 o2 a0 l0
      replace HC : Hid (∀ w, Calls Tryd.prog 73 #[.string h, .int .i64 0, .agg #[.int .i64 0, .int .i64 1, .int .i64 2, .int .i64 3], .agg #[.string f, .string g]] w (LP R (0 + Fm.len χ) (4000 * Fm.len χ) w)) := HC.out
      go_enter Tryd.func16, Tryd.ntmps16
      go_wp2_with fail
      refine (HFV.out _).mono ?_; rintro _ wv ⟨rfl, hwv⟩; rw [hwv]; clear hwv wv
      go_wp2_with fail
      refine (HV1.out _).mono ?_; rintro _ wv ⟨rfl, hwv⟩; rw [hwv]; clear hwv wv
      go_wp2_with fail
      refine (HV2.out _).mono ?_; rintro _ wv ⟨rfl, hwv⟩; rw [hwv]; clear hwv wv
      go_wp2_with fail
      refine (l11Same_any _).mono ?_; rintro _ w2 ⟨rfl, hb2⟩
      have HB2 := Lib.hid hb2
      clear hb2
      go_wp2_with fail
      refine (HC.out _).mono ?_; rintro _ w3 ⟨s, b, rfl, hlr, hs, hb3⟩
      have HB3 := Lib.hid (HB2.out.trans (hb3.mono HB2.out.size))
      have HSF := Lib.hid (fun w => l11Result_any s b _ (short_of hlr) w (by omega))
      obtain ⟨s3, b3, hsf⟩ := short_form R
      rw [hsf] at HSF
      have HSV := Lib.hid hsf
      clear hb3 hlr hsf
      generalize (0 + Fm.len χ) = E at *
      go_wp2_with fail
      refine (HSF.out _).mono ?_; rintro _ w4 ⟨rfl, hw4⟩; rw [hw4]; clear hw4 w4
      go_wp2_with fail
      go_ret2
      exact ⟨congrArg Ending.returned HSV.out.symm, HB3.out⟩
end Go.Proofs.YtmabpmkkleelaaaDoor
