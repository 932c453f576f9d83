/- Contracts of the program's functions and what they compute: part 32. Conditions: those that each theorem states. -/
import Derived.Test.YtfhogenjpepfnaaGreatDoorP51n22
import Derived.Test.YtfhogenjpepfnaaGreatDoorP51n31
namespace Go.Proofs.YtfhogenjpepfnaaGreatDoor
open Go.RowKit
set_option linter.unusedVariables false
set_option maxRecDepth 100000
/-- What sameBall keeps: nothing was told yet, or whether the first order begins with the first element. -/
def FirstJ (b : Nat) (ts : List (List Nat)) (W : World) : Prop :=
  (ts = [] ∧ W.heap[b]? = some (.cells #[.bool false] 4 (0, 0))) ∨ ∃ o : List Nat, ts = [o] ∧ W.heap[b]? = some (.cells #[.bool (decide (o.getD 0 0 = 0))] 4 (0, 0))
theorem first_teller (n h b : Nat) (hn1 : 1 ≤ n) (hb : b < h) : Teller n h 44 #[.pointer (some ⟨b, 0, none⟩)] false (fun k => k = b) (FirstJ b) := by
  refine ⟨(fun k hk => by rw [hk]; exact hb), (fun args W => by kernel_rfl), ?_, ?_⟩
  · rintro ts o v W hc hJ hv ho hs hon _
    have hts : ts = [] := by
      rcases hc with h | h
      · cases h
      · exact h
    subst hts
    have hz : W.heap[b]? = some (.cells #[.bool false] 4 (0, 0)) := by
      rcases hJ with ⟨_, h⟩ | ⟨o, h, _⟩
      · exact h
      · cases h
    obtain ⟨a, cap, rfl, l1, l2, l3⟩ := hv.view
    obtain ⟨g, of, rfl, hg, hcs⟩ := l3 (by omega)
    have hc0 := hcs 0 (by omega)
    rw [Nat.add_zero] at hc0
    obtain ⟨c0, f0, b0⟩ := cell_of hz
    have hgb : g ≠ b := by
      intro e
      subst e
      unfold World.cell? at hc0
      rw [hz] at hc0
      cases of with
      | zero => simp at hc0
      | succ k => simp at hc0
    have hbg : b ≠ g := Ne.symm hgb
    unfold maxLen at l2
    have hl0 : (0 : Int) < (o.length : Int) := by omega
    have HO : Hid (FirstJ b ([] ++ [o]) (W.setCell ⟨b, 0, none⟩ (.bool (decide (o.getD 0 0 = 0)))) ∧ Off (fun k => k = b) W (W.setCell ⟨b, 0, none⟩ (.bool (decide (o.getD 0 0 = 0))))) := by
      refine ⟨.inr ⟨o, rfl, set_cell1 hz⟩, ?_⟩
      exact ⟨rfl, rfl, rfl, by simp [World.setCell], fun k _ hk => Below.heap_setCell _ _ _ _ (by simpa using hk)⟩
    obtain ⟨z, hzz⟩ : ∃ z, o.getD 0 0 = z := ⟨_, rfl⟩
    rw [hzz] at hc0 HO
    clear hJ hc hv hcs hzz hz l3 hon
    by_cases h0 : z = 0
    · subst h0
      have hzB : decide (0 = 0) = true := rfl
      rw [hzB] at HO
      go_enter Tryz.func44, Tryz.ntmps44
      go_wp2_with fail
      go_ret
      exact ⟨rfl, HO.out⟩
    · have hzB : decide (z = 0) = false := decide_eq_false h0
      have hzI : ((z : Int) == 0) = false := by simpa using h0
      rw [hzB] at HO
      go_enter Tryz.func44, Tryz.ntmps44
      go_wp2_with fail
      go_ret
      exact ⟨rfl, HO.out⟩
  · rintro ts W W' hc hJ hbl
    have hts : ts = [] := by
      rcases hc with h | h
      · cases h
      · exact h
    rcases hJ with ⟨_, h⟩ | ⟨o, h, _⟩
    · exact .inl ⟨hts, (hbl.block b hb).trans h⟩
    · rw [hts] at h; cases h
/-- Whether there is an order and the first of all begins with the first element. -/
def firstB (l : List (List Nat)) : Bool := match l with
  | [] => false
  | o :: _ => decide (o.getD 0 0 = 0)
def parS (S : ByteArray) (L : List Nat) : ByteArray := bitsOf (fun x => oneAt S (L.getD x 0)) L.length
def parR (n : Nat) (R : ByteArray) (L : List Nat) : ByteArray := gridOf (fun x y => relAt n R (L.getD x 0) (L.getD y 0)) L.length
/-- Whether two balls have the same shape. -/
def sbB (n : Nat) (S R : ByteArray) (x : Nat) (m : Nat) (T U : ByteArray) (y k : Nat) : Bool :=
  decide ((aroL n R x k).length = (aroL m U y k).length) && firstB (Gs.shapes (stOf (aroL n R x k).length (parS S (aroL n R x k)) (parR n R (aroL n R x k))) (stOf (aroL m U y k).length (parS T (aroL m U y k)) (parR m U (aroL m U y k))))
theorem parS_size (S : ByteArray) (L : List Nat) : (parS S L).size = L.length := bitsOf_size _ _
theorem parR_size (n : Nat) (R : ByteArray) (L : List Nat) : (parR n R L).size = L.length * L.length := bitsOf_size _ _
theorem bel_a1 (W : World) (o : Obj) : Below W.heap.size W (W.alloc o).drew := ((Below.refl _ _).alloc (Nat.le_refl _) o).drew
theorem bel_a2 (W : World) (o o' : Obj) : Below W.heap.size W ((W.alloc o).alloc o').drew := (((Below.refl _ _).alloc (Nat.le_refl _) o).alloc (by simp) o').drew
theorem bel_f {a b c : World} (h : Below a.heap.size a b) (k : Below b.heap.size b c) : Below a.heap.size a c := h.trans (k.mono h.size)
theorem bel_b1 (W : World) (o : Obj) : Below W.heap.size W (W.alloc o) := (Below.refl _ _).alloc (Nat.le_refl _) o
theorem bel_b2 (W : World) (o o' : Obj) : Below W.heap.size W ((W.alloc o).alloc o') := ((Below.refl _ _).alloc (Nat.le_refl _) o).alloc (by simp) o'
theorem zb1 {W w3 : World} (hb : Below (W.alloc (.cells #[.int .i64 0, .string ⟨#[]⟩, .string ⟨#[]⟩] 26)).drew.heap.size (W.alloc (.cells #[.int .i64 0, .string ⟨#[]⟩, .string ⟨#[]⟩] 26)).drew w3) : Hid (SBlk w3 W.heap.size 0 ⟨#[]⟩ ⟨#[]⟩) :=
  (SBlk.new W 0 ⟨#[]⟩ ⟨#[]⟩).below ((Below.refl _ _).drew.trans (hb.mono (Nat.le_refl _))) (by simp)
theorem zb2 {W w3 : World} (hb : Below ((W.alloc (.cells #[.int .i64 0, .string ⟨#[]⟩, .string ⟨#[]⟩] 26)).alloc (.cells #[.int .i64 0, .string ⟨#[]⟩, .string ⟨#[]⟩] 26)).drew.heap.size ((W.alloc (.cells #[.int .i64 0, .string ⟨#[]⟩, .string ⟨#[]⟩] 26)).alloc (.cells #[.int .i64 0, .string ⟨#[]⟩, .string ⟨#[]⟩] 26)).drew w3) : Hid (SBlk w3 W.heap.size 0 ⟨#[]⟩ ⟨#[]⟩ ∧ SBlk w3 (W.heap.size + 1) 0 ⟨#[]⟩ ⟨#[]⟩) := by
  have h2 := SBlk.new (W.alloc (.cells #[.int .i64 0, .string ⟨#[]⟩, .string ⟨#[]⟩] 26)) 0 ⟨#[]⟩ ⟨#[]⟩
  rw [World.size_alloc] at h2
  have hb2 : Below ((W.alloc (.cells #[.int .i64 0, .string ⟨#[]⟩, .string ⟨#[]⟩] 26)).alloc (.cells #[.int .i64 0, .string ⟨#[]⟩, .string ⟨#[]⟩] 26)).heap.size ((W.alloc (.cells #[.int .i64 0, .string ⟨#[]⟩, .string ⟨#[]⟩] 26)).alloc (.cells #[.int .i64 0, .string ⟨#[]⟩, .string ⟨#[]⟩] 26)) w3 := (Below.refl _ _).drew.trans (hb.mono (Nat.le_refl _))
  exact ⟨((SBlk.new W 0 ⟨#[]⟩ ⟨#[]⟩).below ((Below.refl _ _).alloc (Nat.le_refl _) _) (by simp)).below hb2 (by simp; omega), h2.below hb2 (by simp)⟩
theorem zc1 {W w3 : World} (hb : Below (W.alloc (.cells #[.int .i64 0, .string ⟨#[]⟩, .string ⟨#[]⟩] 26)).heap.size (W.alloc (.cells #[.int .i64 0, .string ⟨#[]⟩, .string ⟨#[]⟩] 26)) w3) : Hid (SBlk w3 W.heap.size 0 ⟨#[]⟩ ⟨#[]⟩) :=
  (SBlk.new W 0 ⟨#[]⟩ ⟨#[]⟩).below hb (by simp)
theorem zc2 {W w3 : World} (hb : Below ((W.alloc (.cells #[.int .i64 0, .string ⟨#[]⟩, .string ⟨#[]⟩] 26)).alloc (.cells #[.int .i64 0, .string ⟨#[]⟩, .string ⟨#[]⟩] 26)).heap.size ((W.alloc (.cells #[.int .i64 0, .string ⟨#[]⟩, .string ⟨#[]⟩] 26)).alloc (.cells #[.int .i64 0, .string ⟨#[]⟩, .string ⟨#[]⟩] 26)) w3) : Hid (SBlk w3 W.heap.size 0 ⟨#[]⟩ ⟨#[]⟩ ∧ SBlk w3 (W.heap.size + 1) 0 ⟨#[]⟩ ⟨#[]⟩) := by
  have h2 := SBlk.new (W.alloc (.cells #[.int .i64 0, .string ⟨#[]⟩, .string ⟨#[]⟩] 26)) 0 ⟨#[]⟩ ⟨#[]⟩
  rw [World.size_alloc] at h2
  exact ⟨((SBlk.new W 0 ⟨#[]⟩ ⟨#[]⟩).below ((Below.refl _ _).alloc (Nat.le_refl _) _) (by simp)).below hb (by simp; omega), h2.below hb (by simp)⟩
theorem two_aa {w0 w4 : World} {B p q : Nat} {P1 P2 Q1 Q2 : ByteArray} (hB : Below B w0 w4) (hl : B ≤ w4.heap.size) :
    SBlk ((w4.alloc (.cells #[.int .i64 (p : Int), .string P1, .string P2] 26)).alloc (.cells #[.int .i64 (q : Int), .string Q1, .string Q2] 26)) w4.heap.size (p : Int) P1 P2 ∧ SBlk ((w4.alloc (.cells #[.int .i64 (p : Int), .string P1, .string P2] 26)).alloc (.cells #[.int .i64 (q : Int), .string Q1, .string Q2] 26)) (w4.heap.size + 1) (q : Int) Q1 Q2 ∧ Below B w0 ((w4.alloc (.cells #[.int .i64 (p : Int), .string P1, .string P2] 26)).alloc (.cells #[.int .i64 (q : Int), .string Q1, .string Q2] 26)) := by
  have h2 := SBlk.new (w4.alloc (.cells #[.int .i64 (p : Int), .string P1, .string P2] 26)) (q : Int) Q1 Q2
  rw [World.size_alloc] at h2
  exact ⟨(SBlk.new w4 (p : Int) P1 P2).below ((Below.refl _ _).alloc (Nat.le_refl _) _) (by simp), h2, (hB.alloc hl _).alloc (by simp; omega) _⟩
theorem two_sa {w0 w4 : World} {B b p q : Nat} {P1 P2 Q1 Q2 : ByteArray} {e e' : ByteArray} {z : Int} (hB : Below B w0 w4) (h : SBlk w4 b z e e') (hb : B ≤ b) :
    SBlk ((((w4.setCell ⟨b, 0, none⟩ (.int .i64 (p : Int))).setCell ⟨b, 1, none⟩ (.string P1)).setCell ⟨b, 2, none⟩ (.string P2)).alloc (.cells #[.int .i64 (q : Int), .string Q1, .string Q2] 26)) b (p : Int) P1 P2 ∧ SBlk ((((w4.setCell ⟨b, 0, none⟩ (.int .i64 (p : Int))).setCell ⟨b, 1, none⟩ (.string P1)).setCell ⟨b, 2, none⟩ (.string P2)).alloc (.cells #[.int .i64 (q : Int), .string Q1, .string Q2] 26)) w4.heap.size (q : Int) Q1 Q2 ∧ Below B w0 ((((w4.setCell ⟨b, 0, none⟩ (.int .i64 (p : Int))).setCell ⟨b, 1, none⟩ (.string P1)).setCell ⟨b, 2, none⟩ (.string P2)).alloc (.cells #[.int .i64 (q : Int), .string Q1, .string Q2] 26)) := by
  have hl := h.cells.2.2.2.2.2.2
  have hz : ((((w4.setCell ⟨b, 0, none⟩ (.int .i64 (p : Int))).setCell ⟨b, 1, none⟩ (.string P1)).setCell ⟨b, 2, none⟩ (.string P2))).heap.size = w4.heap.size := by simp
  have h2 := SBlk.new (((w4.setCell ⟨b, 0, none⟩ (.int .i64 (p : Int))).setCell ⟨b, 1, none⟩ (.string P1)).setCell ⟨b, 2, none⟩ (.string P2)) (q : Int) Q1 Q2
  rw [hz] at h2
  exact ⟨h.set3.below ((Below.refl _ _).alloc (Nat.le_refl _) _) (by rw [hz]; exact hl), h2, (((hB.setCell hb _).setCell hb _).setCell hb _).alloc (by rw [hz]; omega) _⟩
theorem two_ss {w0 w4 : World} {B b c p q : Nat} {P1 P2 Q1 Q2 : ByteArray} {e e' f f' : ByteArray} {z y : Int} (hB : Below B w0 w4) (h : SBlk w4 b z e e') (k : SBlk w4 c y f f') (hb : B ≤ b) (hc : B ≤ c) (hne : b ≠ c) :
    SBlk ((((((w4.setCell ⟨b, 0, none⟩ (.int .i64 (p : Int))).setCell ⟨b, 1, none⟩ (.string P1)).setCell ⟨b, 2, none⟩ (.string P2)).setCell ⟨c, 0, none⟩ (.int .i64 (q : Int))).setCell ⟨c, 1, none⟩ (.string Q1)).setCell ⟨c, 2, none⟩ (.string Q2)) b (p : Int) P1 P2 ∧ SBlk ((((((w4.setCell ⟨b, 0, none⟩ (.int .i64 (p : Int))).setCell ⟨b, 1, none⟩ (.string P1)).setCell ⟨b, 2, none⟩ (.string P2)).setCell ⟨c, 0, none⟩ (.int .i64 (q : Int))).setCell ⟨c, 1, none⟩ (.string Q1)).setCell ⟨c, 2, none⟩ (.string Q2)) c (q : Int) Q1 Q2 ∧ Below B w0 ((((((w4.setCell ⟨b, 0, none⟩ (.int .i64 (p : Int))).setCell ⟨b, 1, none⟩ (.string P1)).setCell ⟨b, 2, none⟩ (.string P2)).setCell ⟨c, 0, none⟩ (.int .i64 (q : Int))).setCell ⟨c, 1, none⟩ (.string Q1)).setCell ⟨c, 2, none⟩ (.string Q2)) := by
  refine ⟨((h.set3.far (by simpa using hne) _).far (by simpa using hne) _).far (by simpa using hne) _, (((k.far (by simpa using hne.symm) _).far (by simpa using hne.symm) _).far (by simpa using hne.symm) _).set3, ?_⟩
  exact (((((hB.setCell hb _).setCell hb _).setCell hb _).setCell hc _).setCell hc _).setCell hc _
set_option maxHeartbeats 4000000 in
theorem sameBall_any (n : Nat) (S R : ByteArray) (x : Nat) (m : Nat) (T U : ByteArray) (y k : Nat) (hn : n ≤ 8) (hS : S.size = n) (hR : R.size = n * n) (hx : x < n) (hm : m ≤ 8) (hT : T.size = m) (hU : U.size = m * m) (hy : y < m) (hk : k ≤ 100) (w : World) :
    Calls Tryz.prog 24 #[strV n S R, .int .i64 (x : Int), strV m T U, .int .i64 (y : Int), .int .i64 (k : Int)] w fun e w' => e = .returned (.bool (sbB n S R x m T U y k)) ∧ Below w.heap.size w w' := by
  have HA : Hid (∀ w, Calls Tryz.prog 43 #[strV n S R, .int .i64 (x : Int), .int .i64 (k : Int)] w fun e w' => e = .returned (strV ((aroL n R x k).length : Int) (parS S (aroL n R x k)) (parR n R (aroL n R x k))) ∧ Below w.heap.size w w') := fun w => aroundOf_any n S R x k hn hS hR hx hk w
  have HB : Hid (∀ w, Calls Tryz.prog 43 #[strV m T U, .int .i64 (y : Int), .int .i64 (k : Int)] w fun e w' => e = .returned (strV ((aroL m U y k).length : Int) (parS T (aroL m U y k)) (parR m U (aroL m U y k))) ∧ Below w.heap.size w w') := fun w => aroundOf_any m T U y k hm hT hU hy hk w
  have a1 : 1 ≤ (aroL n R x k).length := by simp [aroL]
  have a8 : (aroL n R x k).length ≤ 8 := Nat.le_trans (aroL_len hx) hn
  have zS := parS_size S (aroL n R x k)
  have zR := parR_size n R (aroL n R x k)
  have zT := parS_size T (aroL m U y k)
  have zU := parR_size m U (aroL m U y k)
  have HSB : Hid (sbB n S R x m T U y k = (decide ((aroL n R x k).length = (aroL m U y k).length) && firstB (Gs.shapes (stOf (aroL n R x k).length (parS S (aroL n R x k)) (parR n R (aroL n R x k))) (stOf (aroL m U y k).length (parS T (aroL m U y k)) (parR m U (aroL m U y k)))))) := rfl
  generalize sbB n S R x m T U y k = RES at *
  generalize parS S (aroL n R x k) = P1 at *
  generalize parR n R (aroL n R x k) = P2 at *
  generalize parS T (aroL m U y k) = Q1 at *
  generalize parR m U (aroL m U y k) = Q2 at *
  generalize (aroL n R x k).length = p at *
  generalize (aroL m U y k).length = q at *
  have HBX := Lib.hid (Bx2.new w n S R m T U)
  unfold boxS at HBX
  obtain ⟨s0, s1, s2, _, _, _, hl⟩ := HBX.out.a.cells
  obtain ⟨t0, t1, t2, _, _, _, hl'⟩ := HBX.out.b.cells
  obtain ⟨W, hW⟩ : ∃ W, (w.alloc (.cells #[.int .i64 (n : Int), .string S, .string R] 26)).alloc (.cells #[.int .i64 (m : Int), .string T, .string U] 26) = W := ⟨_, rfl⟩
  rw [hW] at HBX s0 s1 s2 hl t0 t1 t2 hl'
  have HW := Lib.hid hW
  have HES := Lib.hid (fun (h : p = q) w0 kt caps J tl hj => eachShape_any w0 p P1 P2 Q1 Q2 kt caps false (fun b => b = w0.heap.size - 1) J a8 zS zR (by rw [zT, h]) (by rw [zU, h]) tl hj)
  clear hW hS hR hT hU hx hy zS zR zT zU hn hm hk
  unfold strV at HA HB HES
  unfold strV
  go_enter Tryz.func24, Tryz.ntmps24
  go_upto_region 1 with fail
  rw [HW.out]
  go_cut [11, 12] (fun u v wx => ∃ b1 b2 : Nat, u = .pointer (some ⟨b1, 0, none⟩) ∧ v = .pointer (some ⟨b2, 0, none⟩) ∧ Hid (SBlk wx b1 (p : Int) P1 P2 ∧ SBlk wx b2 (q : Int) Q1 Q2 ∧ Below w.heap.size w wx))
  case first =>
    have e10 : W.heap.size ≠ w.heap.size := by omega
    have e11 : W.heap.size ≠ w.heap.size + 1 := by omega
    have e12 : W.heap.size + 1 ≠ w.heap.size := by omega
    have e13 : W.heap.size + 1 ≠ w.heap.size + 1 := by omega
    go_region_held3 (fun w' => (w'.cell? ⟨w.heap.size, 0, none⟩ = some (.int .i64 (n : Int)) ∧ w'.cell? ⟨w.heap.size, 1, none⟩ = some (.string S) ∧ w'.cell? ⟨w.heap.size, 2, none⟩ = some (.string R)) ∧ (w'.cell? ⟨w.heap.size + 1, 0, none⟩ = some (.int .i64 (m : Int)) ∧ w'.cell? ⟨w.heap.size + 1, 1, none⟩ = some (.string T) ∧ w'.cell? ⟨w.heap.size + 1, 2, none⟩ = some (.string U)))
      (go_keep)
      (first
        | (go_at_call 43; (with_reducible refine (HA.out _).mono ?_); rintro e w3 ⟨rfl, hb3⟩; (first | have HB3 : Hid (Below W.heap.size W w3) := (Below.refl _ _).drew.trans hb3 | have HB3 : Hid (Below W.heap.size W w3) := bel_f (bel_a1 _ _) hb3 | have HB3 : Hid (Below W.heap.size W w3) := bel_f (bel_a2 _ _ _) hb3); (first | (have HC3 := zb2 hb3; obtain ⟨⟨p0, p1, p2, pf0, pf1, pf2, pl⟩, ⟨q0, q1, q2, qf0, qf1, qf2, ql⟩⟩ := And.intro HC3.out.1.cells HC3.out.2.cells) | (have HE3 := zb1 hb3; obtain ⟨p0, p1, p2, pf0, pf1, pf2, pl⟩ := HE3.out.cells) | skip); have HX3 := Lib.hid (HBX.out.below HB3.out); clear s0 s1 s2 hl t0 t1 t2 hl'; obtain ⟨s0, s1, s2, _, _, _, hl⟩ := HX3.out.a.cells; obtain ⟨t0, t1, t2, _, _, _, hl'⟩ := HX3.out.b.cells; have e30 : w3.heap.size ≠ w.heap.size := (by omega); have e31 : w3.heap.size ≠ w.heap.size + 1 := (by omega); have e32 : w3.heap.size + 1 ≠ w.heap.size := (by omega); have e33 : w3.heap.size + 1 ≠ w.heap.size + 1 := (by omega); (first | (have j1 : W.heap.size ≠ w3.heap.size := (by omega); have j1' : w3.heap.size ≠ W.heap.size := (by omega)) | skip); (first | (have j2 : W.heap.size + 1 ≠ w3.heap.size := (by omega); have j2' : w3.heap.size ≠ W.heap.size + 1 := (by omega)) | skip))
        | (go_at_call 43; (with_reducible refine (HB.out _).mono ?_); rintro e w4 ⟨rfl, hb4⟩; (first | have HB4 : Hid (Below w3.heap.size w3 w4) := hb4 | have HB4 : Hid (Below w3.heap.size w3 w4) := bel_f (bel_b1 _ _) hb4 | have HB4 : Hid (Below w3.heap.size w3 w4) := bel_f (bel_b2 _ _ _) hb4); (first | (have HC4 := Lib.hid (And.intro (HC3.out.1.below HB4.out HC3.out.1.cells.2.2.2.2.2.2) (HC3.out.2.below HB4.out HC3.out.2.cells.2.2.2.2.2.2)); clear p0 p1 p2 pf0 pf1 pf2 pl q0 q1 q2 qf0 qf1 qf2 ql HC3; obtain ⟨⟨p0, p1, p2, pf0, pf1, pf2, pl⟩, ⟨q0, q1, q2, qf0, qf1, qf2, ql⟩⟩ := And.intro HC4.out.1.cells HC4.out.2.cells) | (have HE4 := Lib.hid (HE3.out.below HB4.out HE3.out.cells.2.2.2.2.2.2); clear p0 p1 p2 pf0 pf1 pf2 pl HE3; obtain ⟨p0, p1, p2, pf0, pf1, pf2, pl⟩ := HE4.out.cells) | skip); (first | (have HG4 := zc2 hb4; obtain ⟨⟨p0, p1, p2, pf0, pf1, pf2, pl⟩, ⟨q0, q1, q2, qf0, qf1, qf2, ql⟩⟩ := And.intro HG4.out.1.cells HG4.out.2.cells) | (have HI4 := zc1 hb4; obtain ⟨q0, q1, q2, qf0, qf1, qf2, ql⟩ := HI4.out.cells) | skip); have HX4 := Lib.hid (HX3.out.below HB4.out); clear s0 s1 s2 hl t0 t1 t2 hl'; obtain ⟨s0, s1, s2, _, _, _, hl⟩ := HX4.out.a.cells; obtain ⟨t0, t1, t2, _, _, _, hl'⟩ := HX4.out.b.cells; have e40 : w4.heap.size ≠ w.heap.size := (by omega); have e41 : w4.heap.size ≠ w.heap.size + 1 := (by omega); have e42 : w4.heap.size + 1 ≠ w.heap.size := (by omega); have e43 : w4.heap.size + 1 ≠ w.heap.size + 1 := (by omega); (first | (have j3 : W.heap.size ≠ w4.heap.size := (by omega); have j3' : w4.heap.size ≠ W.heap.size := (by omega)) | skip); (first | (have j4 : W.heap.size + 1 ≠ w4.heap.size := (by omega); have j4' : w4.heap.size ≠ W.heap.size + 1 := (by omega)) | skip); (first | (have j5 : w3.heap.size ≠ w4.heap.size := (by omega); have j5' : w4.heap.size ≠ w3.heap.size := (by omega)) | skip); (first | (have j6 : w3.heap.size + 1 ≠ w4.heap.size := (by omega); have j6' : w4.heap.size ≠ w3.heap.size + 1 := (by omega)) | skip); (first | (have j7 : W.heap.size ≠ w4.heap.size + 1 := (by omega); have j7' : w4.heap.size + 1 ≠ W.heap.size := (by omega)) | skip); (first | (have j8 : W.heap.size ≠ w3.heap.size + 1 := (by omega); have j8' : w3.heap.size + 1 ≠ W.heap.size := (by omega)) | skip); (first | (have j9 : W.heap.size ≠ W.heap.size + 1 := (by omega); have j9' : W.heap.size + 1 ≠ W.heap.size := (by omega)) | skip)))
    all_goals
      go_wp2_with fail
      go_meet
      refine ⟨_, _, rfl, rfl, ?_⟩
      have HB : Hid (Below w.heap.size w w4 ∧ w.heap.size ≤ w4.heap.size ∧ w.heap.size ≤ w3.heap.size ∧ w.heap.size ≤ W.heap.size) := ⟨HX4.out.old, HX4.out.old.size, HX3.out.old.size, HBX.out.old.size⟩
      obtain ⟨hB, hB4, hB3, hBW⟩ := HB.out
      refine Lib.hid ?_
      first
      | with_reducible exact two_aa hB hB4
      | with_reducible exact ⟨(two_aa hB hB4).2.1, (two_aa hB hB4).1, (two_aa hB hB4).2.2⟩
      | with_reducible exact two_sa hB HI4.out hB3
      | with_reducible exact two_sa hB HE4.out hBW
      | with_reducible exact ⟨(two_sa hB HI4.out hB3).2.1, (two_sa hB HI4.out hB3).1, (two_sa hB HI4.out hB3).2.2⟩
      | with_reducible exact ⟨(two_sa hB HE4.out hBW).2.1, (two_sa hB HE4.out hBW).1, (two_sa hB HE4.out hBW).2.2⟩
      | with_reducible exact two_ss hB HG4.out.1 HG4.out.2 hB3 (by omega) (by omega)
      | with_reducible exact two_ss hB HG4.out.2 HG4.out.1 (by omega) hB3 (by omega)
      | with_reducible exact ⟨(two_ss hB HG4.out.2 HG4.out.1 (by omega) hB3 (by omega)).2.1, (two_ss hB HG4.out.2 HG4.out.1 (by omega) hB3 (by omega)).1, (two_ss hB HG4.out.2 HG4.out.1 (by omega) hB3 (by omega)).2.2⟩
      | with_reducible exact two_ss hB HC4.out.1 HC4.out.2 hBW (by omega) (by omega)
      | with_reducible exact two_ss hB HC4.out.2 HC4.out.1 (by omega) hBW (by omega)
      | with_reducible exact two_ss hB HE4.out HI4.out hBW hB3 (by omega)
      | with_reducible exact two_ss hB HI4.out HE4.out hB3 hBW (by omega)
  case rest =>
    obtain ⟨b1, b2, rfl, rfl, HC⟩ := hcut
    clear HBX s0 s1 s2 hl t0 t1 t2 hl' HA HB
    obtain ⟨s0, s1, s2, _, _, _, hl⟩ := HC.out.1.cells
    obtain ⟨t0, t1, t2, _, _, _, hl'⟩ := HC.out.2.1.cells
    by_cases hpq : p = q
    · have hnB : ((p : Int) != (q : Int)) = false := by simp [hpq]
      have hal : Below wc.heap.size wc (wc.alloc (.cells #[.bool false] 4)) := (Below.refl _ _).alloc (Nat.le_refl _) _
      have HJ : Hid (FirstJ wc.heap.size [] (wc.alloc (.cells #[.bool false] 4))) := .inl ⟨rfl, heap_alloc_new _ _⟩
      have HCC := Lib.hid (HES.out hpq (wc.alloc (.cells #[.bool false] 4)) 44 #[.pointer (some ⟨wc.heap.size, 0, none⟩)] (FirstJ wc.heap.size) (by
        have h := first_teller p (wc.alloc (.cells #[.bool false] 4)).heap.size wc.heap.size a1 (by simp)
        have e : (wc.alloc (.cells #[.bool false] 4)).heap.size - 1 = wc.heap.size := by simp
        rw [e]
        exact h) HJ.out)
      have HC3 := Lib.hid (And.intro (HC.out.1.below hal hl) (HC.out.2.1.below hal hl'))
      have HO3 : Hid (Below w.heap.size w (wc.alloc (.cells #[.bool false] 4)) ∧ w.heap.size ≤ wc.heap.size) := ⟨HC.out.2.2.trans (hal.mono HC.out.2.2.size), HC.out.2.2.size⟩
      obtain ⟨u0, u1, u2, _, _, _, hul⟩ := HC3.out.1.cells
      obtain ⟨v0, v1, v2, _, _, _, hvl⟩ := HC3.out.2.cells
      have hqp : (q : Int) = (p : Int) := by omega
      rw [hqp] at t0 v0
      clear hal HJ HES
      go_upto_region 5 with fail
      go_wp2_with fail
      refine HCC.out.mono ?_; rintro e w3 ⟨⟨vv, rfl⟩, hj, hoff⟩
      have HB4 : Hid (Below w.heap.size w w3) := HO3.out.1.trans (hoff.below HO3.out.1.size (fun b hb => by rw [hb]; have := HO3.out.2; simp; omega))
      obtain ⟨ls, hls⟩ : ∃ l, Gs.shapes (stOf p P1 P2) (stOf p Q1 Q2) = l := ⟨_, rfl⟩
      rw [hls] at hj
      have HRB : Hid (RES = firstB ls) := by
        show _ = _
        rw [HSB.out, decide_eq_true hpq, Bool.true_and, ← hpq, hls]
      clear hoff hls s0 s1 s2 hl t0 t1 t2 hl' u0 u1 u2 hul v0 v1 v2 hvl HSB
      rcases hj with ⟨h0, hc⟩ | ⟨o, h0, hc⟩
      · have hl0 : ls = [] := by
          cases ls with
          | nil => rfl
          | cons a b => cases h0
        have HRF : Hid (RES = false) := by show _ = _; rw [HRB.out, hl0]; rfl
        obtain ⟨c0, _, _⟩ := cell_of hc
        clear h0 hl0 hc HRB
        go_wp2_with fail
        go_ret
        exact ⟨ret_bool HRF.out.symm, HB4.out⟩
      · have HRF : Hid (RES = decide (o.getD 0 0 = 0)) := by
          show _ = _
          rw [HRB.out]
          cases ls with
          | nil => cases h0
          | cons a b =>
            injection h0 with h0
            subst h0
            rfl
        obtain ⟨c0, _, _⟩ := cell_of hc
        generalize decide (o.getD 0 0 = 0) = rb at *
        clear h0 hc HRB
        go_wp2_with fail
        go_ret
        exact ⟨ret_bool HRF.out.symm, HB4.out⟩
    · have hnB : ((p : Int) != (q : Int)) = true := by simp; omega
      have HRF : Hid (RES = false) := by show _ = _; rw [HSB.out, decide_eq_false hpq]; rfl
      clear HES
      go_wp2_with fail
      go_ret
      exact ⟨ret_bool HRF.out.symm, HC.out.2.2⟩
end Go.Proofs.YtfhogenjpepfnaaGreatDoor
