/- The walk of the law FnPutVars: it returns true. Condition: the bytes are readable. -/
import Derived.Test.YtmabpmkkleelaaaDoorIV
import Derived.Test.YtmabpmkkleelaaaDoorPv
import Derived.Test.YtmabpmkkleelaaaDoorDrawV
namespace Go.Proofs.YtmabpmkkleelaaaDoor
open Go.RowKit
set_option linter.unusedVariables false
set_option maxRecDepth 100000

theorem rowLen40 {k : IntKind} {w : World} {a : Option Addr} {len cap : Nat} {zs : List Int} (h : IsRow k w a len cap zs) : len ≤ maxLen := by
  rcases h with ⟨_, h, _⟩ | ⟨_, _, h1, h2, _⟩
  · rw [h]; decide
  · omega
theorem nat_valid40 {n : Int} {S R : ByteArray} (h : validB n S R = true) : ∃ m : Nat, n = (m : Int) := by
  have h0 := h
  unfold validB inB at h0
  simp at h0
  exact Int.eq_ofNat_of_zero_le (by omega)
/-- What is told of a formula with variables that are put. -/
structure PvOk (f s g : ByteArray) : Prop where
  turn : shortV (pvRes f s) = .tuple #[.string g, .bool true]
  size : g.size ≤ 4000
  same : g.size = f.size
  rank : rankV g = rankV f
  true_ : ∀ (a : Gs.St) (e : Fm.Env), holF g a e = holF f a (fun u => e (mapOf s u))
  ok : varsOk s = true
  again : shortV (pvRes f ⟨#[97, 98, 99, 100]⟩) = .tuple #[.string f, .bool true]
theorem pv_is (f s : ByteArray) : shortV (pvRes f s) = .tuple #[.string ⟨#[]⟩, .bool false] ∨ ∃ g, PvOk f s g := by
  cases hf : readB f with
  | none => left; rw [pv_none hf]; rfl
  | some φ =>
    by_cases hs : varsOk s = true
    · cases hk : Fm.put φ (mapOf s) with
      | none => left; rw [pv_some hf, if_pos hs, hk]; rfl
      | some κ =>
        right
        obtain ⟨hl, hd⟩ := read_len hf
        have hkl := Fm.text_put φ hk
        have hff : txtS (Fm.text φ) = f := by
          unfold txtS
          rw [← hd]
        have hl2 : (Fm.text κ).length ≤ 4000 := by omega
        have hrk : readB (txtS (Fm.text κ)) = some κ := readB_txt hl2
        refine ⟨txtS (Fm.text κ), ?_, by rw [txtS_size]; exact hl2, ?_, ?_, ?_, hs, ?_⟩
        · rw [pv_some hf, if_pos hs, hk]
          show (if _ then _ else _) = _
          rw [if_pos hl2]
        · rw [txtS_size, hkl, ← hff, txtS_size]
        · rw [rank_some hf, rank_some hrk, Fm.rank_put φ hk]
        · intro a e
          rw [holF_some hf, holF_some hrk, Fm.holds_put a φ hk]
        · have hid : mapOf ⟨#[97, 98, 99, 100]⟩ = id := by
            funext x
            match x with
            | ⟨0, _⟩ => rfl
            | ⟨1, _⟩ => rfl
            | ⟨2, _⟩ => rfl
            | ⟨3, _⟩ => rfl
          rw [pv_some hf, if_pos (by rfl), hid, Fm.put_id]
          show (if _ then _ else _) = _
          rw [if_pos hl, hff]
    · left; rw [pv_some hf, if_neg hs]; rfl
/-- The number of the variable at a place. -/
def mapN (s : ByteArray) (i : Nat) : Nat := (mapOf s ⟨i % 4, Nat.mod_lt _ (by decide)⟩).val
/-- The first moved elements. -/
def movL (L : List Nat) (s : ByteArray) (j : Nat) : List Nat := (List.range j).map fun i => L.getD (mapN s i) 0
theorem movL_succ (L : List Nat) (s : ByteArray) (j : Nat) : movL L s (j + 1) = movL L s j ++ [L.getD (mapN s j) 0] := by
  unfold movL; rw [List.range_succ, List.map_append]; rfl
theorem movL_len (L : List Nat) (s : ByteArray) (j : Nat) : (movL L s j).length = j := by unfold movL; simp
theorem mapN_lt (s : ByteArray) (i : Nat) : mapN s i < 4 := (mapOf s _).isLt
theorem movL_env (L : List Nat) (s : ByteArray) : envL (movL L s 4) = fun u => envL L (mapOf s u) := by
  funext u
  unfold envL movL mapN
  have := u.isLt
  match u with
  | ⟨0, _⟩ => rfl
  | ⟨1, _⟩ => rfl
  | ⟨2, _⟩ => rfl
  | ⟨3, _⟩ => rfl
theorem movL_lt {L : List Nat} {n : Nat} {s : ByteArray} (hl : L.length = 4) (hL : ∀ j, j < L.length → L.getD j 0 < n) (k : Nat) : ∀ j, j < (movL L s k).length → (movL L s k).getD j 0 < n := by
  intro j hj
  rw [movL_len] at hj
  unfold movL
  rw [List.getD_eq_getElem?_getD, List.getElem?_eq_getElem (by simp; exact hj)]
  simp
  have := hL (mapN s j) (by rw [hl]; exact mapN_lt s j)
  rw [List.getD_eq_getElem?_getD] at this
  exact this
theorem byte_at {s : ByteArray} (h : varsOk s = true) {j : Nat} (hj : j < 4) (hj2 : j < s.size) : ((s[j].toNat : Nat) : Int) = 97 + ((mapN s j : Nat) : Int) := by
  have hb := (ok_bytes h).2 ⟨j, hj⟩
  have hl : j < s.data.toList.length := hj2
  have e : s.data.toList.getD j 0 = s[j] := by
    rw [List.getD_eq_getElem?_getD, List.getElem?_eq_getElem hl]; rfl
  rw [e] at hb
  rw [hb]
  unfold bAt mapN
  have : (⟨j % 4, Nat.mod_lt _ (by decide)⟩ : Fin 4) = ⟨j, hj⟩ := by
    apply Fin.ext; show j % 4 = j; omega
  rw [this]
  omega
set_option maxHeartbeats 8000000 in
theorem fnPutVars_walk (a0 : Option Addr) (len0 cap0 : Nat) (z0 : List Int) (a1 : Option Addr) (len1 cap1 : Nat) (z1 : List Int) (w : World) (w0 : IsRow .u8 w a0 len0 cap0 z0) (w1 : IsRow .u8 w a1 len1 cap1 z1) :
    Calls Tryd.prog 7 #[.slice a0 len0 cap0, .slice a1 len1 cap1] w fun e w' => e = .returned (.bool true) ∧ Below w.heap.size w w' := by
  have m0 := rowLen40 w0
  have m1 := rowLen40 w1
  unfold maxLen at m0 m1
  have W0 := Lib.hid w0; have W1 := Lib.hid w1; clear w0 w1
  by_cases l0 : (len0 : Int) ≤ 1048576
  · by_cases l1 : (len1 : Int) ≤ 1048576
    · go_enter Tryd.func7, Tryd.ntmps7
      go_wp2_with fail
      refine (DrawPutVars_any _ _ _ _ _ W0.out).mono ?_; rintro e w1 ⟨f, s, fz, sz, rfl, hb⟩
      have HB1 := Lib.hid hb; clear hb
      have HI := Lib.hid (fun w => implPutVars_any f s (by omega) (by omega) w)
      have HS := Lib.hid (fun w => specPutVars_any f s (by omega) (by omega) w)
      rcases pv_is f s with hn | ⟨g, hk⟩
      · rw [hn] at HI HS
        clear hn
        go_wp2_with fail
        refine (HI.out _).mono ?_; rintro e w2 ⟨rfl, hb⟩
        have HB2 := Lib.hid (HB1.out.trans (hb.mono HB1.out.size))
        clear hb
        go_wp2_with fail
        refine (HS.out _).mono ?_; rintro e w3 ⟨rfl, hb⟩
        have HB3 := Lib.hid (HB2.out.trans (hb.mono HB2.out.size))
        clear hb
        go_wp2_with fail
        go_ret
        exact ⟨rfl, HB3.out⟩
      · rw [hk.turn] at HI HS
        have hgz := hk.size
        have HK := Lib.hid hk
        have HA := Lib.hid (fun w => implPutVars_any f ⟨#[97, 98, 99, 100]⟩ (by omega) (by decide) w)
        rw [hk.again] at HA
        have HRG := Lib.hid (fun w => RankOf_any g w (by omega))
        have HRF := Lib.hid (fun w => RankOf_any f w (by omega))
        rw [hk.rank] at HRG
        have HGS := Lib.hid hk.same
        have hs4 : s.size = 4 := (ok_bytes hk.ok).1
        have HS4 := Lib.hid hs4
        have HOK := Lib.hid hk.ok
        have HTR := Lib.hid hk.true_
        generalize rankV f = rf at *
        clear hk hs4
        go_wp2_with fail
        refine (HI.out _).mono ?_; rintro e w2 ⟨rfl, hb⟩
        have HB2 := Lib.hid (HB1.out.trans (hb.mono HB1.out.size))
        clear hb
        go_wp2_with fail
        refine (HS.out _).mono ?_; rintro e w3 ⟨rfl, hb⟩
        have HB3 := Lib.hid (HB2.out.trans (hb.mono HB2.out.size))
        clear hb
        go_wp2_with fail
        refine (DrawCount_any _ _ _ _ _ (W1.out.below HB3.out)).mono ?_; rintro e w4 ⟨n, S, R, n0, n1, hS, hR, rfl, hb⟩
        have HB4 := Lib.hid (HB3.out.trans (hb.mono HB3.out.size)); clear hb HI HS
        have HSV := Lib.hid (fun w => implStructureValid_any n S R (by omega) (by omega) w)
        cases hv : validB n S R
        · rw [hv] at HSV
          unfold strV at HSV ⊢
          clear hv
          have hal : Below w4.heap.size w4 (w4.alloc (.cells #[.int .i64 n, .string S, .string R] 28)) := (Below.refl _ _).alloc (Nat.le_refl _) _
          have HB5 := Lib.hid (HB4.out.trans (hal.mono HB4.out.size))
          have HXa5 : Hid (SBlk (w4.alloc (.cells #[.int .i64 n, .string S, .string R] 28)) w4.heap.size n S R) := SBlk.new w4 n S R
          clear hal
          obtain ⟨ca0, ca1, ca2, fa0, fa1, fa2, ba⟩ := HXa5.out.cells
          go_wp2_with fail
          refine (HSV.out _).mono ?_; rintro e w6 ⟨rfl, hb⟩
          have HB6 := Lib.hid (HB5.out.trans (hb.mono HB5.out.size))
          have HXa6 := Lib.hid (HXa5.out.below hb HXa5.out.cells.2.2.2.2.2.2)
          clear hb
          clear ca0 ca1 ca2 fa0 fa1 fa2 ba
          obtain ⟨ca0, ca1, ca2, fa0, fa1, fa2, ba⟩ := HXa6.out.cells
          have HX3 : Hid (SBlk (((w6.setCell ⟨w4.heap.size, 0, none⟩ (.int .i64 3)).setCell ⟨w4.heap.size, 1, none⟩ (.string ⟨#[49, 48, 49]⟩)).setCell ⟨w4.heap.size, 2, none⟩ (.string ⟨#[48, 49, 49, 48, 48, 49, 49, 48, 48]⟩)) w4.heap.size ((3 : Nat) : Int) ⟨#[49, 48, 49]⟩ ⟨#[48, 49, 49, 48, 48, 49, 49, 48, 48]⟩) := HXa6.out.set3
          have HB3b : Hid (Below w.heap.size w (((w6.setCell ⟨w4.heap.size, 0, none⟩ (.int .i64 3)).setCell ⟨w4.heap.size, 1, none⟩ (.string ⟨#[49, 48, 49]⟩)).setCell ⟨w4.heap.size, 2, none⟩ (.string ⟨#[48, 49, 49, 48, 48, 49, 49, 48, 48]⟩))) := ((HB6.out.setCell HB4.out.size _).setCell HB4.out.size _).setCell HB4.out.size _
          have HV : Hid (validB ((3 : Nat) : Int) ⟨#[49, 48, 49]⟩ ⟨#[48, 49, 49, 48, 48, 49, 49, 48, 48]⟩ = true) := by show _ = _; decide
          go_wp2_with fail
          obtain ⟨wb, hwb⟩ : ∃ x, (((w6.setCell ⟨w4.heap.size, 0, none⟩ (.int .i64 3)).setCell ⟨w4.heap.size, 1, none⟩ (.string ⟨#[49, 48, 49]⟩)).setCell ⟨w4.heap.size, 2, none⟩ (.string ⟨#[48, 49, 49, 48, 48, 49, 49, 48, 48]⟩)) = x := ⟨_, rfl⟩
          rw [hwb] at HX3 HB3b ⊢
          clear hwb ca0 ca1 ca2 fa0 fa1 fa2 ba HXa6 HB6
          have HXa6 := HX3
          have HB6 := HB3b
          clear HX3 HB3b
          have h1 : 1 ≤ 3 := by decide
          have h8 : 3 ≤ 8 := by decide
          clear hS hR n0 n1 HSV
          generalize (⟨#[49, 48, 49]⟩ : ByteArray) = S' at *
          generalize (⟨#[48, 49, 49, 48, 48, 49, 49, 48, 48]⟩ : ByteArray) = R' at *
          obtain ⟨m, hm⟩ : ∃ m : Nat, 3 = m := ⟨_, rfl⟩
          rw [hm] at HXa6 HV h1 h8
          clear hm

          have HJ := Lib.hid (fun (t : ByteArray) (ht : t.size ≤ 4000) L hl hL v w hat => gsHolds_any t (by omega) m S' R' HV.out L hl hL v w hat)
          unfold strV at HJ
          go_loopw [12] (fun q wr => ∃ i : Nat, i ≤ 6 ∧ q = .int .i64 (i : Int) ∧ Hid (SBlk wr w4.heap.size (m : Int) S' R' ∧ Below w.heap.size w wr)) (fun q _ => 6 - (intOf q).toNat)
          case atStart => exact ⟨0, by omega, rfl, HXa6.out, HB6.out⟩
          case round =>
            obtain ⟨i, hi, rfl, HL⟩ := hrel
            by_cases hlt : i < 6
            · have hltI : (i : Int) < 6 := by omega
              have HR1 := Lib.hid (W1.out.below HL.out.2)
              obtain ⟨ca0, ca1, ca2, _, _, _, bba⟩ := HL.out.1.cells
              have HG := Lib.hid (gsFour_any m h1 h8 S' R' i (by omega) wr a1 len1 cap1 z1 HR1.out (by omega))
              unfold strV at HG
              go_wp2_with fail
              refine HG.out.mono ?_; rintro e w9 ⟨v, L, rfl, hl4, hL, hnv, hb⟩
              have HL2 : Hid (SBlk w9 w4.heap.size (m : Int) S' R' ∧ Below w.heap.size w w9) := ⟨HL.out.1.below hb HL.out.1.cells.2.2.2.2.2.2, HL.out.2.trans (hb.mono HL.out.2.size)⟩
              have HNV := Lib.hid hnv
              have HLL := Lib.hid hL
              have HL4 := Lib.hid hl4
              have HOW := Lib.hid (Own.lit0 w9.heap.size w9 (Nat.le_refl _))
              have HBW := Lib.hid ((Below.refl w9.heap.size w9).alloc (Nat.le_refl _) (.cells #[] 3))
              have HCC : Hid (∃ g o cap, v = .slice (some ⟨g, o, none⟩) 4 cap ∧ g < w9.heap.size ∧ ∀ k, k < 4 → w9.cell? ⟨g, o + k, none⟩ = some (.int .i64 ((L.getD k 0 : Nat) : Int))) := by
                rcases hnv with ⟨_, hx⟩ | ⟨x, o, cap, e1, e2, e3, e4, e5⟩
                · rw [hx] at hl4; cases hl4
                · rw [hl4] at e1
                  exact ⟨x, o, cap, e1, e4, fun k hk => e5 k (by omega)⟩
              obtain ⟨x, o, cap, rfl, hxlt, hxc⟩ := HCC.out
              have HXC := Lib.hid hxc
              clear hb hnv hL hl4 HG HR1 ca0 ca1 ca2 bba hxc
              go_wp2_with fail
              go_loopw [15, 14] (fun q p wi => ∃ j : Nat, j ≤ 4 ∧ q = .int .i64 (j : Int) ∧ Hid (Own w9.heap.size wi p (movL L s j)) ∧ Hid (Below w9.heap.size w9 wi)) (fun q _ _ => 4 - (intOf q).toNat)
              case atStart => exact ⟨0, by omega, rfl, HOW.out, HBW.out⟩
              case round =>
                clear HOW HBW
                obtain ⟨j, hj, rfl, HOJ, HBJ⟩ := hrel
                by_cases hlj : j < 4
                · have hljI : (j : Int) < 4 := by omega
                  have hjs : j < s.size := by rw [HS4.out]; exact hlj
                  have hjsI : ¬ ((s.size : Int) ≤ (j : Int)) := by omega
                  have HBY := Lib.hid (byte_at HOK.out hlj hjs)
                  have hcj : wr.cell? ⟨x, o + mapN s j, none⟩ = some (.int .i64 ((L.getD (mapN s j) 0 : Nat) : Int)) := by
                    have hh := HXC.out (mapN s j) (mapN_lt s j)
                    unfold World.cell? at hh ⊢
                    rw [HBJ.out.block _ hxlt]; exact hh
                  have HLN := Lib.hid (show (movL L s j).length ≤ 2000000 by rw [movL_len]; omega)
                  have HSU := Lib.hid (movL_succ L s j)
                  have hmn := mapN_lt s j
                  generalize mapN s j = mn at *
                  obtain ⟨y, hy⟩ : ∃ y, L.getD mn 0 = y := ⟨_, rfl⟩
                  rw [hy] at hcj HSU
                  obtain ⟨ch, hch⟩ : ∃ c, s[j] = c := ⟨_, rfl⟩
                  rw [hch] at HBY
                  have hsub : ((ch.toNat : Nat) : Int) - 97 = (mn : Int) := by have := HBY.out; omega
                  have hmn0 : (0 : Int) ≤ (mn : Int) := by omega
                  have hmn4 : (mn : Int) < 4 := by omega
                  clear hy
                  go_wp2_with (first | (at_builtin; refine wpList_own1 HOJ.out HLN.out rfl (.tmp 82) (.tmp 91) rfl y _ rfl rfl rfl ?_; intro v1 wn ho hg; have HO1 := Lib.hid ho; have HB1 := Lib.hid (HBJ.out.grown hg HBJ.out.size (fun k hk => (HOJ.out.own.lt k hk).1)); clear ho hg))
                  go_roundw
                  case rel => exact ⟨j + 1, by omega, by go_num, by rw [HSU.out]; exact HO1.out, HB1.out⟩
                  case measure => simp [intOf]; omega
                · have hljI : ¬ (j : Int) < 4 := by omega
                  have hj4 : j = 4 := by omega
                  rw [hj4] at HOJ
                  have hm4 : (movL L s 4).length = 4 := movL_len L s 4
                  have hmv := HOJ.out.nums
                  obtain ⟨y, yc, rfl, _, _, _⟩ := hmv.view
                  have HL3 : Hid (SBlk wr w4.heap.size (m : Int) S' R' ∧ Below w.heap.size w wr) := ⟨HL2.out.1.below HBJ.out HL2.out.1.cells.2.2.2.2.2.2, HL2.out.2.trans (HBJ.out.mono HL2.out.2.size)⟩
                  have J1 := Lib.hid (fun s' : Since wr => HJ.out g hgz L HL4.out HLL.out _ s'.w ((HNV.out.below HBJ.out).below s'.below))
                  have J2 := Lib.hid (fun s' : Since wr => HJ.out f (by omega) (movL L s 4) hm4 (movL_lt HL4.out HLL.out 4) _ s'.w (hmv.below s'.below))
                  rw [movL_env, ← HTR.out] at J2
                  rw [hm4] at J2
                  generalize (holF g (stOf m S' R') (envL L)).1 = P at *
                  rw [hm4]
                  clear hmv HOJ HBJ HL2 HNV HLL
                  obtain ⟨ca0, ca1, ca2, _, _, _, bba⟩ := HL3.out.1.cells
                  go_wp2_with fail
                  have f0 := fun s => Since.cell ca0 s
                  have f1 := fun s => Since.cell ca1 s
                  have f2 := fun s => Since.cell ca2 s
                  refine wp_region_since (by kernel_rfl) (by kernel_rfl) ?_
                  repeat (go_big_quiet_step (first | (with_reducible exact Since.call (J1.out _)) | (with_reducible exact Since.call (J2.out _))))
                  refine wpQuiet_nil ?_
                  intro w10 hb
                  have HL4b : Hid (SBlk w10 w4.heap.size (m : Int) S' R' ∧ Below w.heap.size w w10) := ⟨HL3.out.1.below hb HL3.out.1.cells.2.2.2.2.2.2, HL3.out.2.trans (hb.mono HL3.out.2.size)⟩
                  clear hb f0 f1 f2 ca0 ca1 ca2 bba
                  go_wp2_with fail
                  go_roundw
                  case rel => exact ⟨i + 1, by omega, by go_num, HL4b.out⟩
                  case measure => simp [intOf]; omega
            · have hltI : ¬ (i : Int) < 6 := by omega
              have HB20 := Lib.hid HL.out.2
              have hgsI : (g.size : Int) = (f.size : Int) := by rw [HGS.out]
              go_wp2_with fail
              refine (HA.out _).mono ?_; rintro e w21 ⟨rfl, hb⟩
              have HB21 := Lib.hid (HB20.out.trans (hb.mono HB20.out.size))
              clear hb
              go_wp2_with fail
              refine (HRG.out _).mono ?_; rintro e w22 ⟨rfl, hb⟩
              have HB22 := Lib.hid (HB21.out.trans (hb.mono HB21.out.size))
              clear hb
              go_wp2_with fail
              refine (HRF.out _).mono ?_; rintro e w23 ⟨rfl, hb⟩
              have HB23 := Lib.hid (HB22.out.trans (hb.mono HB22.out.size))
              clear hb
              go_wp2_with fail
              go_ret
              exact ⟨ret_bool (by simp), HB23.out⟩
        · rw [hv] at HSV
          obtain ⟨m, rfl⟩ := nat_valid40 hv
          obtain ⟨h1, h8, _⟩ := valid_is hv
          have HV := Lib.hid hv
          clear hv
          unfold strV at HSV ⊢
          have hal : Below w4.heap.size w4 (w4.alloc (.cells #[.int .i64 (m : Int), .string S, .string R] 28)) := (Below.refl _ _).alloc (Nat.le_refl _) _
          have HB5 := Lib.hid (HB4.out.trans (hal.mono HB4.out.size))
          have HXa5 : Hid (SBlk (w4.alloc (.cells #[.int .i64 (m : Int), .string S, .string R] 28)) w4.heap.size (m : Int) S R) := SBlk.new w4 (m : Int) S R
          clear hal
          obtain ⟨ca0, ca1, ca2, fa0, fa1, fa2, ba⟩ := HXa5.out.cells
          go_wp2_with fail
          refine (HSV.out _).mono ?_; rintro e w6 ⟨rfl, hb⟩
          have HB6 := Lib.hid (HB5.out.trans (hb.mono HB5.out.size))
          have HXa6 := Lib.hid (HXa5.out.below hb HXa5.out.cells.2.2.2.2.2.2)
          clear hb
          clear ca0 ca1 ca2 fa0 fa1 fa2 ba
          go_wp2_with fail
          have HJ := Lib.hid (fun (t : ByteArray) (ht : t.size ≤ 4000) L hl hL v w hat => gsHolds_any t (by omega) m S R HV.out L hl hL v w hat)
          unfold strV at HJ
          go_loopw [12] (fun q wr => ∃ i : Nat, i ≤ 6 ∧ q = .int .i64 (i : Int) ∧ Hid (SBlk wr w4.heap.size (m : Int) S R ∧ Below w.heap.size w wr)) (fun q _ => 6 - (intOf q).toNat)
          case atStart => exact ⟨0, by omega, rfl, HXa6.out, HB6.out⟩
          case round =>
            obtain ⟨i, hi, rfl, HL⟩ := hrel
            by_cases hlt : i < 6
            · have hltI : (i : Int) < 6 := by omega
              have HR1 := Lib.hid (W1.out.below HL.out.2)
              obtain ⟨ca0, ca1, ca2, _, _, _, bba⟩ := HL.out.1.cells
              have HG := Lib.hid (gsFour_any m h1 h8 S R i (by omega) wr a1 len1 cap1 z1 HR1.out (by omega))
              unfold strV at HG
              go_wp2_with fail
              refine HG.out.mono ?_; rintro e w9 ⟨v, L, rfl, hl4, hL, hnv, hb⟩
              have HL2 : Hid (SBlk w9 w4.heap.size (m : Int) S R ∧ Below w.heap.size w w9) := ⟨HL.out.1.below hb HL.out.1.cells.2.2.2.2.2.2, HL.out.2.trans (hb.mono HL.out.2.size)⟩
              have HNV := Lib.hid hnv
              have HLL := Lib.hid hL
              have HL4 := Lib.hid hl4
              have HOW := Lib.hid (Own.lit0 w9.heap.size w9 (Nat.le_refl _))
              have HBW := Lib.hid ((Below.refl w9.heap.size w9).alloc (Nat.le_refl _) (.cells #[] 3))
              have HCC : Hid (∃ g o cap, v = .slice (some ⟨g, o, none⟩) 4 cap ∧ g < w9.heap.size ∧ ∀ k, k < 4 → w9.cell? ⟨g, o + k, none⟩ = some (.int .i64 ((L.getD k 0 : Nat) : Int))) := by
                rcases hnv with ⟨_, hx⟩ | ⟨x, o, cap, e1, e2, e3, e4, e5⟩
                · rw [hx] at hl4; cases hl4
                · rw [hl4] at e1
                  exact ⟨x, o, cap, e1, e4, fun k hk => e5 k (by omega)⟩
              obtain ⟨x, o, cap, rfl, hxlt, hxc⟩ := HCC.out
              have HXC := Lib.hid hxc
              clear hb hnv hL hl4 HG HR1 ca0 ca1 ca2 bba hxc
              go_wp2_with fail
              go_loopw [15, 14] (fun q p wi => ∃ j : Nat, j ≤ 4 ∧ q = .int .i64 (j : Int) ∧ Hid (Own w9.heap.size wi p (movL L s j)) ∧ Hid (Below w9.heap.size w9 wi)) (fun q _ _ => 4 - (intOf q).toNat)
              case atStart => exact ⟨0, by omega, rfl, HOW.out, HBW.out⟩
              case round =>
                clear HOW HBW
                obtain ⟨j, hj, rfl, HOJ, HBJ⟩ := hrel
                by_cases hlj : j < 4
                · have hljI : (j : Int) < 4 := by omega
                  have hjs : j < s.size := by rw [HS4.out]; exact hlj
                  have hjsI : ¬ ((s.size : Int) ≤ (j : Int)) := by omega
                  have HBY := Lib.hid (byte_at HOK.out hlj hjs)
                  have hcj : wr.cell? ⟨x, o + mapN s j, none⟩ = some (.int .i64 ((L.getD (mapN s j) 0 : Nat) : Int)) := by
                    have hh := HXC.out (mapN s j) (mapN_lt s j)
                    unfold World.cell? at hh ⊢
                    rw [HBJ.out.block _ hxlt]; exact hh
                  have HLN := Lib.hid (show (movL L s j).length ≤ 2000000 by rw [movL_len]; omega)
                  have HSU := Lib.hid (movL_succ L s j)
                  have hmn := mapN_lt s j
                  generalize mapN s j = mn at *
                  obtain ⟨y, hy⟩ : ∃ y, L.getD mn 0 = y := ⟨_, rfl⟩
                  rw [hy] at hcj HSU
                  obtain ⟨ch, hch⟩ : ∃ c, s[j] = c := ⟨_, rfl⟩
                  rw [hch] at HBY
                  have hsub : ((ch.toNat : Nat) : Int) - 97 = (mn : Int) := by have := HBY.out; omega
                  have hmn0 : (0 : Int) ≤ (mn : Int) := by omega
                  have hmn4 : (mn : Int) < 4 := by omega
                  clear hy
                  go_wp2_with (first | (at_builtin; refine wpList_own1 HOJ.out HLN.out rfl (.tmp 82) (.tmp 91) rfl y _ rfl rfl rfl ?_; intro v1 wn ho hg; have HO1 := Lib.hid ho; have HB1 := Lib.hid (HBJ.out.grown hg HBJ.out.size (fun k hk => (HOJ.out.own.lt k hk).1)); clear ho hg))
                  go_roundw
                  case rel => exact ⟨j + 1, by omega, by go_num, by rw [HSU.out]; exact HO1.out, HB1.out⟩
                  case measure => simp [intOf]; omega
                · have hljI : ¬ (j : Int) < 4 := by omega
                  have hj4 : j = 4 := by omega
                  rw [hj4] at HOJ
                  have hm4 : (movL L s 4).length = 4 := movL_len L s 4
                  have hmv := HOJ.out.nums
                  obtain ⟨y, yc, rfl, _, _, _⟩ := hmv.view
                  have HL3 : Hid (SBlk wr w4.heap.size (m : Int) S R ∧ Below w.heap.size w wr) := ⟨HL2.out.1.below HBJ.out HL2.out.1.cells.2.2.2.2.2.2, HL2.out.2.trans (HBJ.out.mono HL2.out.2.size)⟩
                  have J1 := Lib.hid (fun s' : Since wr => HJ.out g hgz L HL4.out HLL.out _ s'.w ((HNV.out.below HBJ.out).below s'.below))
                  have J2 := Lib.hid (fun s' : Since wr => HJ.out f (by omega) (movL L s 4) hm4 (movL_lt HL4.out HLL.out 4) _ s'.w (hmv.below s'.below))
                  rw [movL_env, ← HTR.out] at J2
                  rw [hm4] at J2
                  generalize (holF g (stOf m S R) (envL L)).1 = P at *
                  rw [hm4]
                  clear hmv HOJ HBJ HL2 HNV HLL
                  obtain ⟨ca0, ca1, ca2, _, _, _, bba⟩ := HL3.out.1.cells
                  go_wp2_with fail
                  have f0 := fun s => Since.cell ca0 s
                  have f1 := fun s => Since.cell ca1 s
                  have f2 := fun s => Since.cell ca2 s
                  refine wp_region_since (by kernel_rfl) (by kernel_rfl) ?_
                  repeat (go_big_quiet_step (first | (with_reducible exact Since.call (J1.out _)) | (with_reducible exact Since.call (J2.out _))))
                  refine wpQuiet_nil ?_
                  intro w10 hb
                  have HL4b : Hid (SBlk w10 w4.heap.size (m : Int) S R ∧ Below w.heap.size w w10) := ⟨HL3.out.1.below hb HL3.out.1.cells.2.2.2.2.2.2, HL3.out.2.trans (hb.mono HL3.out.2.size)⟩
                  clear hb f0 f1 f2 ca0 ca1 ca2 bba
                  go_wp2_with fail
                  go_roundw
                  case rel => exact ⟨i + 1, by omega, by go_num, HL4b.out⟩
                  case measure => simp [intOf]; omega
            · have hltI : ¬ (i : Int) < 6 := by omega
              have HB20 := Lib.hid HL.out.2
              have hgsI : (g.size : Int) = (f.size : Int) := by rw [HGS.out]
              go_wp2_with fail
              refine (HA.out _).mono ?_; rintro e w21 ⟨rfl, hb⟩
              have HB21 := Lib.hid (HB20.out.trans (hb.mono HB20.out.size))
              clear hb
              go_wp2_with fail
              refine (HRG.out _).mono ?_; rintro e w22 ⟨rfl, hb⟩
              have HB22 := Lib.hid (HB21.out.trans (hb.mono HB21.out.size))
              clear hb
              go_wp2_with fail
              refine (HRF.out _).mono ?_; rintro e w23 ⟨rfl, hb⟩
              have HB23 := Lib.hid (HB22.out.trans (hb.mono HB22.out.size))
              clear hb
              go_wp2_with fail
              go_ret
              exact ⟨ret_bool (by simp), HB23.out⟩
    · go_enter Tryd.func7, Tryd.ntmps7
      go_wp2_with fail
      go_ret
      exact ⟨rfl, Below.refl _ _⟩
  · go_enter Tryd.func7, Tryd.ntmps7
    go_wp2_with fail
    go_ret
    exact ⟨rfl, Below.refl _ _⟩
end Go.Proofs.YtmabpmkkleelaaaDoor
