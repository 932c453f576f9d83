/- Contracts of the program's functions and what they compute: part 20. Conditions: those that each theorem states. -/
import Derived.Test.YtnhlhjehocngcaaGreatDoorP50n19
namespace Go.Proofs.YtnhlhjehocngcaaGreatDoor
open Go.RowKit
set_option linter.unusedVariables false
set_option maxRecDepth 100000
def preS (n k : Nat) (c : List Nat) (s K : Nat) : List UInt8 := 114 :: (Lib.decDigits (c.getD s 0) ++ semis n k c s K)
theorem preS_zero (n k : Nat) (c : List Nat) (s : Nat) : (⟨#[114]⟩ : ByteArray) ++ decS (c.getD s 0) = txt (preS n k c s 0) := by
  have e : preS n k c s 0 = [114] ++ Lib.decDigits (c.getD s 0) := by simp [preS, semis]
  rw [e, txt_append]
  rfl
theorem preS_succ (n k : Nat) (c : List Nat) (s K : Nat) : txt (preS n k c s K) ++ txt (Gs.commas (nxtL n k c s K)) ++ ⟨#[59]⟩ = txt (preS n k c s (K + 1)) := by
  have e : preS n k c s (K + 1) = preS n k c s K ++ Gs.commas (nxtL n k c s K) ++ [59] := by simp [preS, semis_succ]
  rw [e, txt_append, txt_append]
  rfl
theorem commas_len : ∀ M : List Nat, (∀ m ∈ M, m ≤ 1000000) → (Gs.commas M).length ≤ 21 * M.length
  | [], _ => by simp [Gs.commas]
  | m :: M, h => by
    have h3 := decS_size m (by have := h m (by simp); omega)
    rw [txt_dec, txt_size] at h3
    have h4 := commas_len M (fun x hx => h x (by simp [hx]))
    simp only [Gs.commas, List.flatMap_cons, List.length_append, List.length_cons] at *
    omega
theorem getD_le {C : List Nat} (h : ∀ x ∈ C, x ≤ 1000000) (i : Nat) : C.getD i 0 ≤ 1000000 := by
  rw [List.getD_eq_getElem?_getD]
  cases e : C[i]? with
  | none => simp
  | some x => simpa using h x (List.mem_of_getElem? e)
theorem nxtL_le {C : List Nat} (h : ∀ x ∈ C, x ≤ 1000000) (n k s j : Nat) : ∀ x ∈ nxtL n k C s j, x ≤ 1000000 := fun x hx => by
  have h1 := (insAll_facts _).1 x |>.1 hx
  obtain ⟨y, _, rfl⟩ := List.mem_map.1 h1
  exact getD_le h _
theorem nxtL_len (n k : Nat) (C : List Nat) (s j : Nat) : (nxtL n k C s j).length ≤ n := by
  have h1 := (insAll_facts ((List.range n).map fun x : Nat => C.getD (ixL (n + 1) ((atL (n + 1) k s).set j (x : Int))) 0)).2.2
  rw [List.length_map, List.length_range] at h1
  exact h1
theorem preS_len {C : List Nat} (h : ∀ x ∈ C, x ≤ 1000000) (n k s : Nat) (hn : n ≤ 8) : ∀ K, (preS n k C s K).length ≤ 30 + 200 * K
  | 0 => by
    have h1 := decS_size (C.getD s 0) (by have := getD_le h s; omega)
    rw [txt_dec, txt_size] at h1
    show (114 :: (Lib.decDigits (C.getD s 0) ++ [])).length ≤ _
    rw [List.append_nil, List.length_cons]
    omega
  | K + 1 => by
    have h1 := preS_len h n k s hn K
    have h2 := commas_len _ (nxtL_le h n k s K)
    have h3 := nxtL_len n k C s K
    have e : preS n k C s (K + 1) = preS n k C s K ++ Gs.commas (nxtL n k C s K) ++ [59] := by simp [preS, semis_succ]
    rw [e, List.length_append, List.length_append]
    simp only [List.length_cons, List.length_nil]
    omega
/-- What comes next, so far. -/
def nxtT (n k : Nat) (c : List Nat) (s j x : Nat) : List Nat := insAll ((List.range x).map fun x : Nat => c.getD (ixL (n + 1) ((atL (n + 1) k s).set j (x : Int))) 0)
theorem nxtT_succ (n k : Nat) (c : List Nat) (s j x : Nat) : nxtT n k c s j (x + 1) = Gs.ins (nxtT n k c s j x) (c.getD (ixL (n + 1) ((atL (n + 1) k s).set j (x : Int))) 0) := by
  unfold nxtT
  rw [List.range_succ, List.map_append, List.map_cons, List.map_nil, insAll_snoc]
theorem nxtT_len (n k : Nat) (c : List Nat) (s j x : Nat) : (nxtT n k c s j x).length ≤ x := by
  have h1 := (insAll_facts ((List.range x).map fun x : Nat => c.getD (ixL (n + 1) ((atL (n + 1) k s).set j (x : Int))) 0)).2.2
  rw [List.length_map, List.length_range] at h1
  exact h1
theorem round_ls {w W w2 : World} {gL gC n N : Nat} {S R : ByteArray} {F : Nat → Prop} {vs : Array Value} {D : List (List UInt8)} (hb : Boxes w W gL gC n S R) (hB : Below w.heap.size w W) (hz : W.heap.size = w.heap.size + 2) (hT : Tbl w gL gC F vs D) (hlo : ∀ b, F b → b < w.heap.size)
    (hown : w2.ownsRow (w.heap.size + 2) 3 1 (.slice (some ⟨W.heap.size, 0, none⟩) N N) N (madeCells (Value.int .i64 0).cells (N * 1)).toList) (hg : W.grownBy w2 none) : Ls w gL gC n S R F D [] F vs W.heap.size N (List.replicate N 0) w2 :=
  start_ls hb hB hz (Below.refl _ _) hT hlo hown hg
theorem own_ge {B : Nat} {w : World} {v : Value} {L : List Nat} (h : Own B w v L) : ∀ k, v.ownBlock = some k → B ≤ k := fun k hk => by
  obtain ⟨b, h1, h2, _⟩ := h.block
  rw [h1] at hk
  cases hk
  exact h2
set_option maxHeartbeats 2000000 in
theorem l7Round_any (gL gC n k B : Nat) (F : Nat → Prop) (vs : Array Value) (D : List (List UInt8)) (S R : ByteArray) (v : Value) (C : List Nat) (w : World) (hT : Tbl w gL gC F vs D) (hD : D.length ≤ 100000) (hn : n ≤ 8) (hk : k ≤ 3) (hv : Own B w v C) (hvF : ∀ b, v.ownBlock = some b → ¬ F b) (hC : C.length = (n + 1) ^ k) (hCb : ∀ x ∈ C, x ≤ 1000000) :
    Calls Tryz.prog 72 #[tblV gL gC, strV n S R, v, .int .i64 (k : Int)] w (LvP gL gC F D ((n + 1) ^ k) (rndS n k C) w) := by
  have hlo := hT.lt
  have HBX : Hid (Boxes w (boxT w gL gC n S R) gL gC n S R ∧ Below w.heap.size w (boxT w gL gC n S R) ∧ (boxT w gL gC n S R).heap.size = w.heap.size + 2) := ⟨boxT_boxes _ _ _ _ _ _, boxT_below _ _ _ _ _ _, boxT_size _ _ _ _ _ _⟩
  have HTB := Lib.hid hT
  obtain ⟨W, hW⟩ : ∃ W, boxT w gL gC n S R = W := ⟨_, rfl⟩
  rw [hW] at HBX
  unfold boxT boxS at hW
  have HW := Lib.hid hW
  clear hW hT
  have hN := pw_le hn hk
  have HAT := Lib.hid (fun s w hs => l7At_any n k s S R w hn hk hs)
  have HIXP : Hid (∀ s x j, x < n → ixL (n + 1) ((atL (n + 1) k s).set j (x : Int)) < (n + 1) ^ k) := fun s x j hx => ixL_lt k (by rw [List.length_set, atL_len]) ((atL_pbs k s).set j hx)
  obtain ⟨N, hNe⟩ : ∃ N, (n + 1) ^ k = N := ⟨_, rfl⟩
  rw [hNe] at HIXP hC hN ⊢
  obtain ⟨i0, hi, hz, h1, h2⟩ := info_parts natInfo3
  have HI := Lib.hid (And.intro hi (And.intro hz (And.intro h1 h2)))
  have HLO := Lib.hid hlo
  clear hi hz h1 h2 hNe hlo
  have hNI : (N : Int) ≤ 729 := by omega
  obtain ⟨gv, capv, rfl, _, hgv, hv1, hv2, hvc⟩ := hv.cells
  unfold maxLen at hv2
  have hvF2 := hvF gv rfl
  rw [hC] at hv1 hvc ⊢
  have HVC := Lib.hid (And.intro hgv (And.intro hvF2 hvc))
  have HCB := Lib.hid hCb
  clear hgv hvF2 hvc hCb hvF hv
  have HC := Lib.hid hC
  clear hC
  unfold strV at HAT
  unfold strV tblV
  go_enter Tryz.func72, Tryz.ntmps72
  go_upto_region 1 with fail
  rw [HW.out]
  go_wp2_with (first | (refine wpList_make_full _ rfl _ _ 25 rfl (w.heap.size + 2) 3 i0 (.int .i64 0) 1 Tryz.underlying25 HI.out.1 HI.out.2.1 HI.out.2.2.1 .i64 .i64 N N N rfl rfl rfl rfl (by rw [HI.out.2.2.2]; omega) (by unfold maxLen; omega) (by have := HBX.out.2.2; omega) ?_; intro w2 hown hgr; have HP0 : Hid (Ls w gL gC n S R F D [] F vs W.heap.size N (List.replicate N 0) w2) := round_ls HBX.out.1 HBX.out.2.1 HBX.out.2.2 HTB.out HLO.out hown hgr; clear hown hgr) | fail)
  have HNUM : Hid (∀ (F' : Nat → Prop) (vs' : Array Value) (E : List (List UInt8)) (j : Nat) (W : World), Tbl W gL gC F' vs' (D ++ E) → E.length ≤ 800 → Calls Tryz.prog 126 #[.agg #[.slice (some ⟨gL, 0, none⟩) 997 997, .slice (some ⟨gC, 0, none⟩) 1 1], .string (txt (preS n k C j k))] W (Numbered gL gC F' (D ++ E) (rndS n k C j) W)) := fun F' vs' E j W h1 h2 => by
    have := preS_len HCB.out n k j hn k
    exact l5Number_any gL gC F' vs' (D ++ E) _ W h1 (by rw [List.length_append]; omega) (by omega)
  obtain ⟨g, hg⟩ : ∃ g, W.heap.size = g := ⟨_, rfl⟩
  rw [hg] at HP0 ⊢
  clear HBX HW hg HTB HI
  have HBN : Hid (∀ j, j < N → j ≤ 1000) := fun j hj => by omega
  go_loopw [10] (fun q wr => ∃ j : Nat, j ≤ N ∧ q = .int .i64 (j : Int) ∧ Hid (∃ E F' vs' c, Ls w gL gC n S R F D E F' vs' g N c wr ∧ (∀ i, i < j → (D ++ E)[c.getD i 0]? = some (rndS n k C i)) ∧ E.length ≤ j)) (fun q _ => N - (intOf q).toNat)
  case atStart => exact ⟨0, by omega, rfl, ⟨[], F, vs, _, HP0.out, fun i hi => absurd hi (by omega), Nat.le_refl _⟩⟩
  case round =>
    clear HP0
    obtain ⟨s, hs, rfl, HX⟩ := hrel
    by_cases hlt : s < N
    · have hsI : (s : Int) < (N : Int) := by omega
      obtain ⟨E, F', vs', c, hP, hL, hE⟩ := HX.out
      have HP := Lib.hid hP
      have HL := Lib.hid (And.intro hL hE)
      clear hP hL hE HX
      have hsA : s ≤ 1000 := HBN.out s hlt
      obtain ⟨wo, hwo⟩ : ∃ wo : World, wo = wr := ⟨_, rfl⟩
      subst hwo
      have HVW : Hid (∀ (W : World) (i : Nat), Below wo.heap.size wo W → i < N → W.cell? ⟨gv, i, none⟩ = some (.int .i64 ((C.getD i 0 : Nat) : Int))) := fun W i hb hi => by
        have h1 := (HP.out.off.cell (p := ⟨gv, i, none⟩) HVC.out.1 HVC.out.2.1).trans (HVC.out.2.2 i hi)
        exact (hb.cell (p := ⟨gv, i, none⟩) (Nat.lt_of_lt_of_le HVC.out.1 HP.out.off.size)).trans h1
      have KC : Hid (∀ W : World, Below wo.heap.size wo W → W.cell? ⟨w.heap.size + 1, 0, none⟩ = some (.int .i64 n) ∧ W.cell? ⟨w.heap.size + 1, 1, none⟩ = some (.string S) ∧ W.cell? ⟨w.heap.size + 1, 2, none⟩ = some (.string R)) := fun W hb => (HP.out.below hb).cells.2.2
      obtain ⟨c2, c3, c4⟩ := KC.out wo (Below.refl _ _)
      go_wp2_with fail
      refine (HAT.out s _ hsA).mono ?_; rintro e w1 ⟨v1, rfl, ho1, hb1⟩
      have HA1 : Hid (IntsAt w1 v1 (atL (n + 1) k s) ∧ Below wo.heap.size wo w1) := ⟨ho1.ints, hb1⟩
      clear ho1 hb1 c2 c3 c4
      have d0 := HVW.out w1 s HA1.out.2 hlt
      have HDEC : Hid (∀ W, Calls Tryz.prog 129 #[.int .i64 ((C.getD s 0 : Nat) : Int)] W fun e w' => e = .returned (.string (decS (C.getD s 0))) ∧ Below W.heap.size W w') := fun W => dec_any _ W (by have := getD_le HCB.out s; omega)
      have HT0 : Hid ((⟨#[114]⟩ : ByteArray) ++ decS (C.getD s 0) = txt (preS n k C s 0)) := preS_zero n k C s
      have hz0 := decS_size (C.getD s 0) (by have := getD_le HCB.out s; omega)
      obtain ⟨z, hz⟩ : ∃ z, C.getD s 0 = z := ⟨_, rfl⟩
      rw [hz] at d0 HDEC HT0 hz0
      clear hz
      obtain ⟨dz, hdz⟩ : ∃ d, decS z = d := ⟨_, rfl⟩
      rw [hdz] at HDEC HT0 hz0
      clear hdz
      go_wp2_with fail
      refine (HDEC.out _).mono ?_; rintro e w2 ⟨rfl, hb2⟩
      have HA2 : Hid (IntsAt w2 v1 (atL (n + 1) k s) ∧ Below wo.heap.size wo w2) := ⟨HA1.out.1.below hb2, HA1.out.2.trans (hb2.mono HA1.out.2.size)⟩
      clear hb2 HA1 d0
      go_wp2_with fail
      have HVW2 : Hid (∀ (W : World) (i : Nat), Below w2.heap.size w2 W → i < N → W.cell? ⟨gv, i, none⟩ = some (.int .i64 ((C.getD i 0 : Nat) : Int))) := fun W i hb hi => HVW.out W i (HA2.out.2.trans (hb.mono HA2.out.2.size)) hi
      have KC2 : Hid (∀ W : World, Below w2.heap.size w2 W → W.cell? ⟨w.heap.size + 1, 0, none⟩ = some (.int .i64 n) ∧ W.cell? ⟨w.heap.size + 1, 1, none⟩ = some (.string S) ∧ W.cell? ⟨w.heap.size + 1, 2, none⟩ = some (.string R)) := fun W hb => KC.out W (HA2.out.2.trans (hb.mono HA2.out.2.size))
      have HP2 : Hid (∀ W : World, Below w2.heap.size w2 W → Ls w gL gC n S R F D E F' vs' g N c W) := fun W hb => HP.out.below (HA2.out.2.trans (hb.mono HA2.out.2.size))
      have HPL := Lib.hid (fun (K : Nat) (hK : K ≤ k) (T : ByteArray) (hT : T = txt (preS n k C s K)) => show T.size ≤ 700 by
        have := preS_len HCB.out n k s hn K
        rw [hT, txt_size]
        omega)
      have HPUT : Hid (∀ (j x : Nat) (W : World), j < k → Below w2.heap.size w2 W → Calls Tryz.prog 131 #[v1, .int .i64 (j : Int), .int .i64 (x : Int)] W (ListI ((atL (n + 1) k s).set j (x : Int)) W)) := fun j x W hj h => l7Put_any _ j _ v1 W (HA2.out.1.below h) (by rw [atL_len]; exact hj) (by rw [atL_len]; omega)
      have HIDX := Lib.hid (fun (j x : Nat) (v : Value) (W : World) (hx : x < n) (h : IntsAt W v ((atL (n + 1) k s).set j (x : Int))) => l7Index_any n S R ((atL (n + 1) k s).set j (x : Int)) v W hn (by rw [List.length_set, atL_len]; exact hk) h ((atL_pbs k s).set j hx))
      unfold strV at HIDX
      have HINS := Lib.hid (fun (v : Value) (L : List Nat) (m : Nat) (W : World) (h : Own w2.heap.size W v L) (hl : L.length ≤ 100) => l5Insert_any w2.heap.size v L m W h hl)
      have HDCC : Hid (∀ (m : Nat) (W : World), m ≤ 1000000 → Calls Tryz.prog 129 #[.int .i64 (m : Int)] W fun e w' => e = .returned (.string (decS m)) ∧ Below W.heap.size W w') := fun m W h => dec_any m W (by omega)
      have hkN : (k : Int) ≤ 3 := by omega
      have hnN : (n : Int) ≤ 8 := by omega
      clear HP HVW KC
      go_loopw [12, 13] (fun o q wr => ∃ j : Nat, j ≤ k ∧ q = .int .i64 (j : Int) ∧ ∃ T : ByteArray, o = .string T ∧ Hid (T = txt (preS n k C s j)) ∧ Hid (Below w2.heap.size w2 wr)) (fun _ q _ => k - (intOf q).toNat)
      case atStart => exact ⟨0, by omega, rfl, _, rfl, HT0, Below.refl _ _⟩
      case round =>
        clear HT0 HA2 hz0 HDEC
        obtain ⟨j, hj, rfl, T, rfl, HT, HB⟩ := hrel
        have hTz := HPL.out j hj T HT.out
        by_cases hltj : j < k
        · have hjI : (j : Int) < (k : Int) := by omega
          have HO0 : Hid (Own w2.heap.size (wr.alloc (.cells #[] 3)) (.slice (some ⟨wr.heap.size, 0, none⟩) 0 0) (nxtT n k C s j 0) ∧ Below w2.heap.size w2 (wr.alloc (.cells #[] 3))) :=
            ⟨Own.lit0 _ _ HB.out.size, HB.out.alloc HB.out.size _⟩
          go_wp2_with fail
          go_loopw [14, 15] (fun o q wr => ∃ x : Nat, x ≤ n ∧ q = .int .i64 (x : Int) ∧ Hid (Own w2.heap.size wr o (nxtT n k C s j x) ∧ Below w2.heap.size w2 wr)) (fun _ q _ => n - (intOf q).toNat)
          case atStart => exact ⟨0, by omega, rfl, HO0⟩
          case round =>
            clear HO0 HB
            obtain ⟨x, hx, rfl, HO⟩ := hrel
            obtain ⟨c2, c3, c4⟩ := KC2.out wr HO.out.2
            by_cases hltx : x < n
            · have hxI : (x : Int) < (n : Int) := by omega
              go_upto_region 14 with fail
              have KX : Hid (∀ w' : World, Below w2.heap.size w2 w' → w'.cell? ⟨w.heap.size + 1, 0, none⟩ = some (.int .i64 n) ∧ w'.cell? ⟨w.heap.size + 1, 1, none⟩ = some (.string S) ∧ w'.cell? ⟨w.heap.size + 1, 2, none⟩ = some (.string R) ∧ w'.cell? ⟨gv, ixL (n + 1) ((atL (n + 1) k s).set j (x : Int)), none⟩ = some (.int .i64 ((C.getD (ixL (n + 1) ((atL (n + 1) k s).set j (x : Int))) 0 : Nat) : Int))) := fun W hb => ⟨(KC2.out W hb).1, (KC2.out W hb).2.1, (KC2.out W hb).2.2, HVW2.out W _ hb (HIXP.out s x j hltx)⟩
              have cx := (KX.out wr HO.out.2).2.2.2
              go_region_held3 (fun w' => w'.cell? ⟨w.heap.size + 1, 0, none⟩ = some (.int .i64 n) ∧ w'.cell? ⟨w.heap.size + 1, 1, none⟩ = some (.string S) ∧ w'.cell? ⟨w.heap.size + 1, 2, none⟩ = some (.string R) ∧ w'.cell? ⟨gv, ixL (n + 1) ((atL (n + 1) k s).set j (x : Int)), none⟩ = some (.int .i64 ((C.getD (ixL (n + 1) ((atL (n + 1) k s).set j (x : Int))) 0 : Nat) : Int)))
                (first | exact KX.out _ HB4.out.2 | exact KX.out _ HB3.out.2 | exact KX.out _ HB2.out.2.2 | exact KX.out _ HO.out.2 | go_keep)
                (first
                | (go_at_call 130; refine (HINS.out _ _ _ _ HB3.out.1 (by have := nxtT_len n k C s j x; omega)).mono ?_; rintro e w5 ⟨v4, rfl, ho4, hg4, hn4⟩; have HB4 : Hid (Own w2.heap.size w5 v4 (nxtT n k C s j (x + 1)) ∧ Below w2.heap.size w2 w5) := ⟨by rw [nxtT_succ]; exact ho4, HB3.out.2.grown hg4 HB3.out.2.size (own_ge HB3.out.1)⟩; clear ho4 hg4 hn4)
                | (go_at_call 69; refine (HIDX.out j x _ _ hltx HB2.out.1).mono ?_; rintro e w4 ⟨rfl, hb3⟩; have HB3 : Hid (Own w2.heap.size w4 u14 (nxtT n k C s j x) ∧ Below w2.heap.size w2 w4) := ⟨HB2.out.2.1.below hb3, HB2.out.2.2.trans (hb3.mono HB2.out.2.2.size)⟩; clear hb3; have hixb := HIXP.out s x j hltx)
                | (go_at_call 131; refine (HPUT.out j x _ hltj HO.out.2.drew).mono ?_; rintro e w3 ⟨v2, rfl, ho2, hb2⟩; have HB2 : Hid (IntsAt w3 v2 ((atL (n + 1) k s).set j (x : Int)) ∧ Own w2.heap.size w3 u14 (nxtT n k C s j x) ∧ Below w2.heap.size w2 w3) := ⟨ho2.ints, HO.out.1.below ((Below.refl _ _).drew.trans hb2), HO.out.2.trans (((Below.refl _ _).drew.trans hb2).mono HO.out.2.size)⟩; clear ho2 hb2))
              all_goals
                have HB5 := Lib.hid HB4.out
                clear HB4 HB3 HB2 HO
                go_wp2_with fail
                go_roundw
                case rel => exact ⟨x + 1, by omega, by go_num, HB5⟩
                case measure => simp [intOf]; omega
            · obtain rfl : n = x := by omega
              obtain ⟨gl, capl, rfl, _, hgl2, hgl3, hgl4, hglc⟩ := HO.out.1.cells
              have HLL : Hid ((nxtT n k C s j n).length ≤ 8) := by show _ ≤ _; have := nxtT_len n k C s j n; omega
              have HLB : Hid (∀ i, (nxtT n k C s j n).getD i 0 ≤ 1000000) := fun i => getD_le (nxtL_le HCB.out n k s j) i
              have HSU : Hid (txt (preS n k C s j) ++ txt (Gs.commas (nxtT n k C s j n)) ++ ⟨#[59]⟩ = txt (preS n k C s (j + 1))) := preS_succ n k C s j
              have HOB := Lib.hid HO.out.2
              obtain ⟨L, hL⟩ : ∃ L, nxtT n k C s j n = L := ⟨_, rfl⟩
              rw [hL] at HLL HLB HSU hgl3 hglc ⊢
              clear hL HO
              have HGC := Lib.hid hglc
              clear hglc
              have hL8 := HLL.out
              unfold maxLen at hgl4
              obtain ⟨wq, hwq⟩ : ∃ wq : World, wq = wr := ⟨_, rfl⟩
              subst hwq
              go_wp2_with fail
              go_loopw [12, 16] (fun o q wr => ∃ i : Nat, i ≤ L.length ∧ q = .int .i64 (i : Int) ∧ ∃ out : ByteArray, o = .string out ∧ out.size ≤ 700 + 21 * i ∧ Hid (out = T ++ txt (Gs.commas (L.take i))) ∧ Hid (Below wq.heap.size wq wr)) (fun _ q _ => L.length - (intOf q).toNat)
              case atStart => exact ⟨0, by omega, rfl, T, rfl, by omega, (b_nil T).symm, Below.refl _ _⟩
              case round =>
                clear c2 c3 c4
                obtain ⟨i, hi, rfl, out, rfl, ho, HO, HBQ⟩ := hrel
                by_cases hlt2 : i < L.length
                · have d1 := (HBQ.out.cell (p := ⟨gl, i, none⟩) hgl2).trans (HGC.out i hlt2)
                  have hm := HLB.out i
                  have HCS := Lib.hid (commas_succ L i hlt2)
                  obtain ⟨m, hmx⟩ : ∃ m, L.getD i 0 = m := ⟨_, rfl⟩
                  rw [hmx] at d1 hm HCS
                  have HDM := Lib.hid (fun W => HDCC.out m W hm)
                  have hmz := decS_size m (by omega)
                  have HO2 : Hid (out ++ ⟨#[44]⟩ ++ decS m = T ++ txt (Gs.commas (L.take (i + 1)))) := by
                    show _ = _
                    rw [HO.out, HCS.out, txt_append, txt_append, b_assoc, b_assoc]
                    rfl
                  clear hmx hm
                  generalize decS m = dm at *
                  go_wp2_with fail
                  refine (HDM.out _).mono ?_; rintro e wq2 ⟨rfl, hb⟩
                  have HBQ2 := Lib.hid (HBQ.out.trans (hb.mono HBQ.out.size))
                  clear hb
                  go_wp2_with fail
                  go_roundw
                  case rel =>
                    refine ⟨i + 1, by omega, by go_num, _, rfl, ?_, HO2.out, HBQ2.out⟩
                    have h44 : (⟨#[44]⟩ : ByteArray).size = 1 := rfl
                    simp only [ByteArray.size_append, h44]; omega
                  case measure => simp [intOf]; omega
                · have HOE : Hid (out ++ ⟨#[59]⟩ = txt (preS n k C s (j + 1))) := by
                    show _ = _
                    rw [← HSU.out, ← HT.out, HO.out, List.take_of_length_le (by omega)]
                  have hz9 : out.size ≤ 1000 := by omega
                  have HBE := Lib.hid (HOB.out.trans (HBQ.out.mono HOB.out.size))
                  clear HO HBQ HOB HSU
                  go_wp2_with fail
                  go_roundw
                  case rel => exact ⟨j + 1, by omega, by go_num, _, rfl, HOE, HBE⟩
                  case measure => simp [intOf]; omega
        · obtain rfl : k = j := by omega
          have e0 := HP2.out wr HB.out
          have HP3 := Lib.hid e0
          have hcl := e0.cells
          clear e0
          obtain ⟨c0, c1, c2, c3, c4⟩ := hcl
          have HNT : Hid (∀ W : World, Tbl W gL gC F' vs' (D ++ E) → Calls Tryz.prog 126 #[.agg #[.slice (some ⟨gL, 0, none⟩) 997 997, .slice (some ⟨gC, 0, none⟩) 1 1], .string T] W (Numbered gL gC F' (D ++ E) (rndS n k C s) W)) := fun W h => by
            rw [HT.out]
            exact HNUM.out F' vs' E s W h (by have := HL.out.2; omega)
          go_wp2_with fail
          refine (HNT.out _ HP3.out.tb).mono ?_; rintro e w4 hnb; obtain ⟨num, F2, vs2, X, rfl, hX, hn2, hP3⟩ := HP3.out.number hnb
          have HP4 : Hid (X.length ≤ 1 ∧ (D ++ (E ++ X))[num]? = some (rndS n k C s) ∧ Ls w gL gC n S R F D (E ++ X) F2 vs2 g N c w4) := ⟨hX, hn2, hP3⟩
          obtain ⟨p0, p0f⟩ := hP3.cell hlt
          clear hnb hX hn2 hP3 HP3 c0 c1 c2 c3 c4
          have HQ : Hid (∃ E F' vs' c', Ls w gL gC n S R F D E F' vs' g N c' (w4.setCell ⟨g, s, none⟩ (.int .i64 (num : Int))) ∧ (∀ i, i < s + 1 → (D ++ E)[c'.getD i 0]? = some (rndS n k C i)) ∧ E.length ≤ s + 1) := ⟨_, _, _, _, HP4.out.2.2.set s num, lev_step (by rw [HP4.out.2.2.len]; exact hlt) HL.out.1 HP4.out.2.1, by rw [List.length_append]; have := HP4.out.1; have := HL.out.2; omega⟩
          clear HP4 HL HP2 HT HB
          go_wp2_with fail
          go_roundw
          case rel => exact ⟨s + 1, by omega, by go_num, HQ⟩
          case measure => simp [intOf]; omega
    · obtain rfl : s = N := by omega
      have HF : Hid (LvP gL gC F D s (rndS n k C) w (.returned (.slice (some ⟨g, 0, none⟩) s s)) wr) := by
        obtain ⟨E, F', vs', c, hP, hL, hE⟩ := HX.out
        exact hP.fin hL hE
      clear HX
      go_wp2_with fail
      go_ret
      exact HF.out
end Go.Proofs.YtnhlhjehocngcaaGreatDoor
