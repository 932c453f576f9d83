/- Contracts of the program's functions and what they compute: part 28. Conditions: those that each theorem states. -/
import Derived.Test.YtnhlhjehocngcaaGreatDoorP50n24
namespace Go.Proofs.YtnhlhjehocngcaaGreatDoor
open Go.RowKit
set_option linter.unusedVariables false
set_option maxRecDepth 100000
/-- A talk, seen from one of its sides. -/
def Tk (w : World) (tp : Nat) (tu : Bool) (n : Nat) (S R : ByteArray) (m : Nat) (S2 R2 : ByteArray) (k cnt : Nat) : Prop :=
  ∃ p, if tu then Talk w tp p m S2 R2 n S R k cnt else Talk w tp p n S R m S2 R2 k cnt
theorem Tk.below {w w' : World} {tp n m k cnt : Nat} {tu : Bool} {S R S2 R2 : ByteArray} (h : Tk w tp tu n S R m S2 R2 k cnt) (hb : Below w.heap.size w w') : Tk w' tp tu n S R m S2 R2 k cnt := by
  obtain ⟨p, h⟩ := h
  refine ⟨p, ?_⟩
  cases tu
  · exact Talk.below h hb
  · exact Talk.below h hb
theorem Tk.flip {w : World} {tp n m k cnt : Nat} {tu : Bool} {S R S2 R2 : ByteArray} (h : Tk w tp tu n S R m S2 R2 k cnt) : Tk w tp (!tu) m S2 R2 n S R k cnt := by
  obtain ⟨p, h⟩ := h
  refine ⟨p, ?_⟩
  cases tu
  · exact h
  · exact h
theorem won_any (tp n m k cnt t : Nat) (S R S2 R2 : ByteArray) (L M : List Int) (v u : Value) (w : World) (tu : Bool) (hT : Tk w tp tu n S R m S2 R2 k cnt) (hv : IntsAt w v L) (hu : IntsAt w u M) (hr : Rdy n m L M) (hk : L.length = k) (hk3 : k ≤ 3) (hn : n ≤ 8) (hm : m ≤ 8) (hn0 : 0 < n) (hm0 : 0 < m) (ht : t < cnt) :
    Calls Tryz.prog 64 #[.pointer (some ⟨tp, 0, none⟩), v, u, .int .i64 (t : Int), .bool tu] w fun e w' => e = .returned (.bool (pwB (stOf n S R) (stOf m S2 R2) n m t L M)) ∧ Below w.heap.size w w' := by
  obtain ⟨p, hT⟩ := hT
  cases tu
  · exact won_core tp p n m k cnt t S R S2 R2 L M v u w hT hv hu hr hk hk3 hn hm hm0 ht false
  · have := won_core tp p m n k cnt t S2 R2 S R M L u v w hT hu hv hr.symm (by rw [← hr.len]; exact hk) hk3 hm hn hn0 ht true
    rw [pwB_symm t hr] at this
    exact this
theorem beatA_bad {a b : Gs.St} {t : Nat} {L M : List Int} {i x y : Nat} (hy : y < b.n) (h : pwB a b a.n b.n t (L.set i (x : Int)) (M.set i (y : Int)) = true) : beatA a b t L M i x = false := by
  unfold beatA
  rw [List.all_eq_false]
  exact ⟨y, List.mem_range.2 hy, by rw [h]; decide⟩
theorem beatA_good {a b : Gs.St} {t : Nat} {L M : List Int} {i x : Nat} (h : ∀ y, y < b.n → pwB a b a.n b.n t (L.set i (x : Int)) (M.set i (y : Int)) = false) : beatA a b t L M i x = true := by
  unfold beatA
  rw [List.all_eq_true]
  intro y hy
  rw [h y (List.mem_range.1 hy)]; rfl
theorem beatA_at {a b : Gs.St} {t : Nat} {L M : List Int} {i x y : Nat} (h : beatA a b t L M i x = true) (hy : y < b.n) : pwB a b a.n b.n t (L.set i (x : Int)) (M.set i (y : Int)) = false := by
  unfold beatA at h
  rw [List.all_eq_true] at h
  simpa using h y (List.mem_range.2 hy)
/-- What a talk's calls need. -/
structure TkR (w : World) (tp : Nat) (tu : Bool) (n : Nat) (S R : ByteArray) (m : Nat) (S2 R2 : ByteArray) (k cnt : Nat) (v u : Value) (L M : List Int) : Prop where
  t : Tk w tp tu n S R m S2 R2 k cnt
  v : IntsAt w v L
  u : IntsAt w u M
theorem TkR.below {w w' : World} {tp n m k cnt : Nat} {tu : Bool} {S R S2 R2 : ByteArray} {v u : Value} {L M : List Int} (h : TkR w tp tu n S R m S2 R2 k cnt v u L M) (hb : Below w.heap.size w w') : TkR w' tp tu n S R m S2 R2 k cnt v u L M := ⟨h.t.below hb, h.v.below hb, h.u.below hb⟩
theorem TkR.flip {w : World} {tp n m k cnt : Nat} {tu : Bool} {S R S2 R2 : ByteArray} {v u : Value} {L M : List Int} (h : TkR w tp tu n S R m S2 R2 k cnt v u L M) : TkR w tp (!tu) m S2 R2 n S R k cnt u v M L := ⟨h.t.flip, h.u, h.v⟩
set_option maxHeartbeats 1000000 in
theorem beats_any (tp n m k cnt t i x : Nat) (S R S2 R2 : ByteArray) (L M : List Int) (v u : Value) (w : World) (tu : Bool) (hT : TkR w tp tu n S R m S2 R2 k cnt v u L M) (hr : Rdy n m L M) (hk : L.length = k) (hk3 : k ≤ 3) (hn : n ≤ 8) (hm : m ≤ 8) (hn0 : 0 < n) (hm0 : 0 < m) (ht : t < cnt) (ht3 : t ≤ 100) (hi : i < k) (hx : x < n) :
    Calls Tryz.prog 66 #[.pointer (some ⟨tp, 0, none⟩), v, u, .int .i64 ((t : Int) + 1), .bool tu, .int .i64 (i : Int), .int .i64 (x : Int), .int .i64 (m : Int)] w fun e w' => e = .returned (.bool (beatA (stOf n S R) (stOf m S2 R2) t L M i x)) ∧ Below w.heap.size w w' := by
  have HLM := Lib.hid hr.len
  have HKK := Lib.hid hk
  have HPA := Lib.hid (fun w v (hv : IntsAt w v L) => put_any L i (x : Int) v w hv (by omega) (by omega))
  have HPB := Lib.hid (fun w u y (hu : IntsAt w u M) => put_any M i y u w hu (by have := HLM.out; omega) (by have := HLM.out; omega))
  have HWN : Hid (∀ w v u y, y < m → Tk w tp tu n S R m S2 R2 k cnt → IntsAt w v (L.set i (x : Int)) → IntsAt w u (M.set i ((y : Nat) : Int)) → Calls Tryz.prog 64 #[.pointer (some ⟨tp, 0, none⟩), v, u, .int .i64 (t : Int), .bool tu] w fun e w' => e = .returned (.bool (pwB (stOf n S R) (stOf m S2 R2) n m t (L.set i (x : Int)) (M.set i (y : Int)))) ∧ Below w.heap.size w w') :=
    fun w v u y hy h1 h2 h3 => won_any tp n m k cnt t S R S2 R2 _ _ v u w tu h1 h2 h3 (hr.put i hx hy) (by rw [List.length_set]; exact hk) hk3 hn hm hn0 hm0 ht
  have HBAD : Hid (∀ y, y < m → pwB (stOf n S R) (stOf m S2 R2) n m t (L.set i (x : Int)) (M.set i (y : Int)) = true → beatA (stOf n S R) (stOf m S2 R2) t L M i x = false) := fun y hy h => beatA_bad (b := stOf m S2 R2) hy h
  have HGOOD : Hid ((∀ y, y < m → pwB (stOf n S R) (stOf m S2 R2) n m t (L.set i (x : Int)) (M.set i (y : Int)) = false) → beatA (stOf n S R) (stOf m S2 R2) t L M i x = true) := fun h => beatA_good (b := stOf m S2 R2) h
  have HT := Lib.hid hT
  have HV := Lib.hid hT.v
  have HU := Lib.hid hT.u
  obtain ⟨a1, ca, rfl, _, _, _⟩ := hT.v.view
  obtain ⟨b1, cb, rfl, _, _, _⟩ := hT.u.view
  generalize beatA (stOf n S R) (stOf m S2 R2) t L M i x = RES at *
  have HO0 : Hid (Below w.heap.size w w) := Below.refl _ _
  rw [hk, ← hr.len, hk] at *
  clear hT hr hk
  go_enter Tryz.func66, Tryz.ntmps66
  go_wp2_with fail
  go_loopw [19, 17] (fun q _ wr => ∃ y : Nat, y ≤ m ∧ q = .int .i64 (y : Int) ∧ Hid (∀ j, j < y → pwB (stOf n S R) (stOf m S2 R2) n m t (L.set i (x : Int)) (M.set i ((j : Nat) : Int)) = false) ∧ Hid (Below w.heap.size w wr)) (fun q _ _ => m - (intOf q).toNat)
  case atStart => exact ⟨0, by omega, rfl, fun j hj => by omega, HO0⟩
  case round =>
    clear HO0
    obtain ⟨y, hy, rfl, HN, HO⟩ := hrel
    by_cases hlt : y < m
    · have hyI : (y : Int) < (m : Int) := by omega
      have htt : (t : Int) + 1 - 1 = (t : Int) := by omega
      have HA1 := Lib.hid (HPA.out wr _ (HT.out.v.below HO.out))
      go_wp2_with fail
      refine HA1.out.mono ?_; rintro e w1 ⟨v1, rfl, ho1, hb1⟩
      have HO1 := Lib.hid (HO.out.trans (hb1.mono HO.out.size))
      have HB1 := Lib.hid (HPB.out w1 _ y (HT.out.u.below HO1.out))
      have HV1 := Lib.hid ho1.ints
      clear ho1 hb1 HA1
      go_wp2_with fail
      refine HB1.out.mono ?_; rintro e w2 ⟨v2, rfl, ho2, hb2⟩
      have HO2 := Lib.hid (HO1.out.trans (hb2.mono HO1.out.size))
      have HW1 := Lib.hid (HWN.out w2 v1 v2 y hlt (HT.out.t.below HO2.out) (HV1.out.below hb2) ho2.ints)
      have HBAD1 := Lib.hid (HBAD.out y hlt)
      have HND : Hid (pwB (stOf n S R) (stOf m S2 R2) n m t (L.set i (x : Int)) (M.set i (y : Int)) = false → ∀ j, j < y + 1 → pwB (stOf n S R) (stOf m S2 R2) n m t (L.set i (x : Int)) (M.set i ((j : Nat) : Int)) = false) := fun h j hj => by
        by_cases e : j = y
        · rw [e]; exact h
        · exact HN.out j (by omega)
      generalize pwB (stOf n S R) (stOf m S2 R2) n m t (L.set i (x : Int)) (M.set i (y : Int)) = r at *
      clear ho2 hb2 HB1
      go_wp2_with fail
      refine HW1.out.mono ?_; rintro e w3 ⟨rfl, hb3⟩
      have HO3 := Lib.hid (HO2.out.trans (hb3.mono HO2.out.size))
      clear hb3 HW1
      cases r
      · have HN2 := Lib.hid (HND.out rfl)
        go_wp2_with fail
        go_roundw
        case rel => exact ⟨y + 1, by omega, by go_num, HN2, HO3⟩
        case measure => simp [intOf]; omega
      · have HE := Lib.hid (HBAD1.out rfl)
        go_wp2_with fail
        go_ret
        exact ⟨ret_bool HE.out.symm, HO3.out⟩
    · obtain rfl : y = m := by omega
      have HE := Lib.hid (HGOOD.out HN.out)
      go_wp2_with fail
      go_ret
      exact ⟨ret_bool HE.out.symm, HO.out⟩
/-- A structure's size and texts. -/
structure Szs (n : Nat) (S R : ByteArray) : Prop where
  n1 : 1 ≤ n
  n8 : n ≤ 8
  s : S.size = n
  r : R.size = n * n
/-- The formula's call, for so many turns. -/
def FormOK (t : Nat) : Prop := ∀ (tp n m k cnt : Nat) (S R S2 R2 : ByteArray) (L M : List Int) (v u : Value) (w : World) (tu : Bool), TkR w tp tu n S R m S2 R2 k cnt v u L M → Rdy n m L M → L.length = k → 1 ≤ k → k ≤ 3 → Szs n S R → Szs m S2 R2 → t < cnt → t ≤ 3 → pwB (stOf n S R) (stOf m S2 R2) n m t L M = false →
  Calls Tryz.prog 29 #[.pointer (some ⟨tp, 0, none⟩), v, u, .int .i64 (t : Int), .bool tu] w fun e w' => e = .returned (.tuple #[.string (pebF t (stOf n S R) (stOf m S2 R2) L M), .bool true]) ∧ Below w.heap.size w w'
theorem szF_le {t : Nat} (h : t ≤ 2) : szF t ≤ 355 := by
  rcases (show t = 0 ∨ t = 1 ∨ t = 2 by omega) with rfl | rfl | rfl <;> decide
set_option maxHeartbeats 2000000 in
theorem quantified_any (t : Nat) (HF : FormOK t) (tp n m k cnt i x : Nat) (S R S2 R2 head : ByteArray) (L M : List Int) (v u : Value) (w : World) (tu : Bool) (hT : TkR w tp tu n S R m S2 R2 k cnt v u L M) (hr : Rdy n m L M) (hk : L.length = k) (hk1 : 1 ≤ k) (hk3 : k ≤ 3) (hs1 : Szs n S R) (hs2 : Szs m S2 R2) (ht : t < cnt) (ht2 : t ≤ 2) (hi : i < k) (hx : x < n) (hb : beatA (stOf n S R) (stOf m S2 R2) t L M i x = true) (hh : head.size ≤ 2) :
    Calls Tryz.prog 67 #[.pointer (some ⟨tp, 0, none⟩), .string head, v, u, .int .i64 ((t : Int) + 1), .bool tu, .int .i64 (i : Int), .int .i64 (x : Int), .int .i64 (m : Int)] w fun e w' => e = .returned (.tuple #[.string (quB head i ((List.range m).map fun y : Nat => pebF t (stOf n S R) (stOf m S2 R2) (L.set i (x : Int)) (M.set i (y : Int)))), .bool true]) ∧ Below w.heap.size w w' := by
  have HLM := Lib.hid hr.len
  have hm8 := hs2.n8
  have hm1 := hs2.n1
  have HPA := Lib.hid (fun w v (hv : IntsAt w v L) => put_any L i (x : Int) v w hv (by omega) (by omega))
  have HPB := Lib.hid (fun w u y (hu : IntsAt w u M) => put_any M i y u w hu (by have := HLM.out; omega) (by have := HLM.out; omega))
  obtain ⟨g, hg⟩ : ∃ g : Nat → ByteArray, (fun y : Nat => pebF t (stOf n S R) (stOf m S2 R2) (L.set i (x : Int)) (M.set i (y : Int))) = g := ⟨_, rfl⟩
  have HGE := Lib.hid hg
  have HGS : Hid (∀ y, (g y).size ≤ 355) := fun y => by
    rw [← HGE.out]
    exact Nat.le_trans (pebF_size t _ _ _ _ hs1.n1 hs1.n8 hs2.n1 hs2.n8) (szF_le ht2)
  have HFM : Hid (∀ w v u y, y < m → TkR w tp tu n S R m S2 R2 k cnt v u (L.set i (x : Int)) (M.set i ((y : Nat) : Int)) → Calls Tryz.prog 29 #[.pointer (some ⟨tp, 0, none⟩), v, u, .int .i64 (t : Int), .bool tu] w fun e w' => e = .returned (.tuple #[.string (g y), .bool true]) ∧ Below w.heap.size w w') := fun w v u y hy h1 => by
    rw [← HGE.out]
    exact HF tp n m k cnt S R S2 R2 _ _ v u w tu h1 (hr.put i hx hy) (by rw [List.length_set]; exact hk) hk1 hk3 hs1 hs2 ht (by omega) (beatA_at (b := stOf m S2 R2) hb hy)
  have HT := Lib.hid hT
  have HNM := Lib.hid (fun w => nameOf_any i w (by omega))
  have HVN : Hid (⟨#[UInt8.ofNat (97 + i)]⟩ = vnB i) := rfl
  rw [HVN.out] at HNM
  have HVS : Hid ((vnB i).size = 1) := rfl
  have HQ : Hid (quB head i ((List.range m).map g) = head ++ vnB i ++ joinP ⟨#[38]⟩ (uniqL ((List.range m).map g))) := rfl
  have HQS : Hid (quB head i ((List.range m).map g) ≠ ByteArray.empty → True) := fun _ => trivial
  have HQZ : Hid ((quB head i ((List.range m).map g)).size ≤ 4000) := by
    have := quB_size (head := head) (i := i) (c := 355) (parts := (List.range m).map g) hh (by simp; omega) (by simp; omega) (fun f hf => by
      obtain ⟨y, _, rfl⟩ := List.mem_map.1 hf
      exact HGS.out y)
    show _ ≤ _
    omega
  rw [hg]
  obtain ⟨RES, hres⟩ : ∃ r, quB head i ((List.range m).map g) = r := ⟨_, rfl⟩
  rw [hres] at HQ HQZ ⊢
  have HSH := Lib.hid (fun w => short_any RES w HQZ.out)
  generalize vnB i = vi at *
  obtain ⟨a1, ca, rfl, _, _, _⟩ := hT.v.view
  obtain ⟨b1, cb, rfl, _, _, _⟩ := hT.u.view
  have HP0 : Hid (Strs w (w.alloc (.cells #[] 9)) (.slice (some ⟨w.heap.size, 0, none⟩) 0 0) ((List.range 0).map g)) := Strs.lit0 w
  rw [hk, ← hr.len, hk] at *
  clear hT hr hk hs1 hs2 hb hres hg HQS
  go_enter Tryz.func67, Tryz.ntmps67
  go_wp2_with fail
  go_loopw [26, 20, 21, 22, 23] (fun q o _ _ _ wr => ∃ y : Nat, y ≤ m ∧ q = .int .i64 (y : Int) ∧ Hid (Strs w wr o ((List.range y).map g))) (fun q _ _ _ _ _ => m - (intOf q).toNat)
  case atStart => exact ⟨0, by omega, rfl, HP0⟩
  case round =>
    clear HP0
    obtain ⟨y, hy, rfl, HP⟩ := hrel
    by_cases hlt : y < m
    · have hyI : (y : Int) < (m : Int) := by omega
      have htt : (t : Int) + 1 - 1 = (t : Int) := by omega
      have HA1 := Lib.hid (HPA.out wr _ (HT.out.v.below HP.out.old))
      have HRS : Hid ((List.range (y + 1)).map g = (List.range y).map g ++ [g y]) := by show _ = _; rw [List.range_succ, List.map_append]; rfl
      go_wp2_with fail
      refine HA1.out.mono ?_; rintro e w1 ⟨v1, rfl, ho1, hb1⟩
      have HP1 := Lib.hid (HP.out.kept hb1)
      have HB1 := Lib.hid (HPB.out w1 _ y (HT.out.u.below HP1.out.old))
      have HV1 := Lib.hid ho1.ints
      clear ho1 hb1 HA1 HP
      go_wp2_with fail
      refine HB1.out.mono ?_; rintro e w2 ⟨v2, rfl, ho2, hb2⟩
      have HP2 := Lib.hid (HP1.out.kept hb2)
      have HF1 := Lib.hid (HFM.out w2 v1 v2 y hlt ⟨HT.out.t.below HP2.out.old, HV1.out.below hb2, ho2.ints⟩)
      generalize g y = f at *
      clear ho2 hb2 HB1 HP1
      go_wp2_with fail
      refine HF1.out.mono ?_; rintro e w3 ⟨rfl, hb3⟩
      have HP3 := Lib.hid (HP2.out.kept hb3)
      have HL3 : Hid (((List.range y).map g).length ≤ 2000000) := by show _ ≤ _; simp; omega
      clear hb3 HF1 HP2
      go_wp2_with (first | (at_builtin; refine wpList_app1 HP3.out HL3.out rfl (.tmp 47) (.tmp 49) rfl f _ rfl rfl rfl ?_; intro v' w' ho; have HP9 := Lib.hid ho; clear ho) | fail)
      go_roundw
      case rel => exact ⟨y + 1, by omega, by go_num, by rw [HRS.out]; exact HP9⟩
      case measure => simp [intOf]; omega
    · obtain rfl : y = m := by omega
      obtain ⟨PA, hPA⟩ : ∃ P, (List.range y).map g = P := ⟨_, rfl⟩
      have HPAL : Hid (PA.length = y) := by show _ = _; rw [← hPA]; simp
      have HPAS : Hid (∀ f ∈ PA, f.size ≤ 355) := fun f hf => by
        rw [← hPA] at hf
        obtain ⟨z, _, rfl⟩ := List.mem_map.1 hf
        exact HGS.out z
      rw [hPA] at HP HQ
      clear hPA
      obtain ⟨U, hU⟩ : ∃ U, uniqL PA = U := ⟨_, rfl⟩
      have HUF : Hid (U.length ≤ 8 ∧ sumL U ≤ 8 * 355) := by
        obtain ⟨q1, q2, q3⟩ := uniqL_facts PA
        have q4 := sumL_le (L := uniqL PA) (b := 355) (fun f hf => HPAS.out f (q1 f hf))
        have q5 : (uniqL PA).length * 355 ≤ 8 * 355 := Nat.mul_le_mul_right _ (by have := HPAL.out; omega)
        rw [← hU]
        exact ⟨by have := HPAL.out; omega, by omega⟩
      rw [hU] at HQ
      obtain ⟨ug, uc, rfl, m1, m2, m3, m4, m5⟩ := HP.out.cells
      have HWE := Lib.hid (withoutEqual_any PA ug uc wr m3 m4 (by have := HPAL.out; omega) m2 m5)
      rw [hU] at HWE
      clear hU m5
      have hz : ¬ 9223372036854775807 < head.size + vi.size := by have := HVS.out; omega
      go_wp2_with fail
      refine (HNM.out _).mono ?_; rintro e w1 ⟨rfl, hw1⟩; rw [← hw1]; clear hw1
      go_wp2_with fail
      refine HWE.out.mono ?_; rintro e w2 ⟨v2, rfl, hs⟩
      have HO2 := Lib.hid (HP.out.old.trans (hs.old.mono HP.out.old.size))
      obtain ⟨xg, xc, rfl, n1, n2, n3, n4, n5⟩ := hs.cells
      have HJ := Lib.hid (joined_any ⟨#[38]⟩ U xg xc w2 (by decide) (by have := HUF.out.1; omega) (by have := HUF.out.2; omega) n3 n4 n5)
      generalize joinP ⟨#[38]⟩ U = J at *
      have hz2 : ¬ 9223372036854775807 < (head ++ vi).size + J.size := by
        have h1 := HQZ.out
        rw [HQ.out, ByteArray.size_append] at h1
        omega
      clear hs n5 HWE
      go_wp2_with fail
      refine HJ.out.mono ?_; rintro e w3 ⟨rfl, hw3⟩; rw [← hw3]; clear hw3
      go_wp2_with fail
      rw [← HQ.out]
      refine (HSH.out _).mono ?_; rintro e w4 ⟨rfl, hw4⟩; rw [hw4]; clear hw4
      go_wp2_with fail
      go_ret2
      exact ⟨rfl, HO2.out⟩
end Go.Proofs.YtnhlhjehocngcaaGreatDoor
