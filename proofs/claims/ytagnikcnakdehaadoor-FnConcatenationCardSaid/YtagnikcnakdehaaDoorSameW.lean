/- The reference's l5Wins, SecondWins and SameRank from no elements; SameWords of the program and of the reference; the law FnExactSameWords. Conditions: the structures are valid; a text's length fits an integer. -/
import Derived.Test.YtagnikcnakdehaaDoorNew
import Derived.Test.YtagnikcnakdehaaDoorValid
import Derived.Test.YtagnikcnakdehaaDoorWord
import Derived.Deep.RegionHeld3
namespace Go.Proofs.YtagnikcnakdehaaDoor
open Go.RowKit
set_option linter.unusedVariables false

/-- What a call leaves that returns a truth and turns nothing that was there. -/
def BoolB (w : World) (b : Bool) (e : Ending) (w' : World) : Prop := e = .returned (.bool b) ∧ Below w.heap.size w w'

theorem wins_num {D : List (List UInt8)} (hD : D.Nodup) {a b : Gs.St} {k : Nat} {la lb : List Nat} (hl : la.length = lb.length) {n m : Nat} (h1 : Gs.TypeNum D a k la n) (h2 : Gs.TypeNum D b k lb m) : ((n : Int) == (m : Int)) = Gs.wins k a la b lb := by
  rw [Bool.eq_iff_iff, beq_iff_eq, Gs.wins_iff hl, ← Gs.typeNum_iff hD h1 h2]
  omega
theorem calls_le (n k : Nat) (hn : n ≤ 8) (hk : k ≤ 3) : callsN n k ≤ 585 := by
  have h0 : callsN n 0 = 1 := rfl
  have h1 : callsN n 1 = n * 1 + 1 := rfl
  have h2 : callsN n 2 = n * (n * 1 + 1) + 1 := rfl
  have h3 : callsN n 3 = n * (n * (n * 1 + 1) + 1) + 1 := rfl
  have a1 : n * 1 + 1 ≤ 9 := by omega
  have a2 : n * (n * 1 + 1) ≤ 8 * 9 := Nat.mul_le_mul hn a1
  have a3 : n * (n * (n * 1 + 1) + 1) ≤ 8 * 73 := Nat.mul_le_mul hn (by omega)
  rcases (show k = 0 ∨ k = 1 ∨ k = 2 ∨ k = 3 by omega) with rfl | rfl | rfl | rfl <;> omega

set_option maxRecDepth 100000 in
set_option maxHeartbeats 1000000 in
theorem l5Wins_any (n : Nat) (S R : ByteArray) (m : Nat) (S2 R2 : ByteArray) (va vb : Value) (la lb : List Nat) (k : Nat) (w : World) (hp : Pos n S R m S2 R2 la lb k) (hk : k ≤ 3) (hva : NumsAt w va la) (hvb : NumsAt w vb lb) :
    Calls Tryd.prog 197 #[strV n S R, va, strV m S2 R2, vb, .int .i64 (k : Int)] w (BoolB w (Gs.wins k (stOf n S R) la (stOf m S2 R2) lb)) := by
  have HP := Lib.hid hp
  have HT := Lib.hid (Two.new w n S R m S2 R2)
  have HTZ : Hid ((boxS (boxS w n S R) m S2 R2).heap.size = w.heap.size + 2) := by show _ = _; rw [boxS_size, boxS_size]
  unfold boxS at HT HTZ
  have HVA := Lib.hid hva; have HVB := Lib.hid hvb
  have hva0 : ∀ j, va.ownBlock = some j → j < w.heap.size ∨ va = .slice none 0 0 := by
    intro j hj
    rcases hva with ⟨rfl, _⟩ | ⟨g, o, cap, rfl, _, _, h1, _⟩
    · exact .inr rfl
    · obtain rfl := Option.some.inj hj; exact .inl h1
  have hvb0 : ∀ j, vb.ownBlock = some j → j < w.heap.size ∨ vb = .slice none 0 0 := by
    intro j hj
    rcases hvb with ⟨rfl, _⟩ | ⟨g, o, cap, rfl, _, _, h1, _⟩
    · exact .inr rfl
    · obtain rfl := Option.some.inj hj; exact .inl h1
  have HVA0 := Lib.hid hva0; have HVB0 := Lib.hid hvb0
  clear hp hva hvb hva0 hvb0
  unfold strV
  go_enter Tryd.func197, Tryd.ntmps197
  go_wp2_with fail
  refine (l5New_any _).mono ?_; rintro e w1 ⟨gL, gC, F, vs, rfl, ht, hb, hF⟩
  have HT1 := Lib.hid (HT.out.below hb)
  have HTB := Lib.hid ht
  have HFF := Lib.hid hF
  have HS1 := Lib.hid hb.size
  clear ht hb hF
  unfold tblV
  go_wp2_with fail
  obtain ⟨wr, hwr⟩ : ∃ wr, w1.alloc (.cells #[.slice (some ⟨gL, 0, none⟩) 997 997, .slice (some ⟨gC, 0, none⟩) 1 1] 80) = wr := ⟨_, rfl⟩
  have hbw : Below w1.heap.size w1 wr := by rw [← hwr]; exact (Below.refl _ _).alloc (Nat.le_refl _) _
  have hzw : wr.heap.size = w1.heap.size + 1 := by rw [← hwr]; simp
  have q0 : wr.cell? ⟨w1.heap.size, 0, none⟩ = some (.slice (some ⟨gL, 0, none⟩) 997 997) := by rw [← hwr]; simp
  have q1 : wr.cell? ⟨w1.heap.size, 1, none⟩ = some (.slice (some ⟨gC, 0, none⟩) 1 1) := by rw [← hwr]; simp
  rw [hwr]
  have HT2 := Lib.hid (HT1.out.below hbw)
  have HTR := Lib.hid (HTB.out.below hbw)
  have HB2 : Hid (Below w.heap.size w wr) := HT2.out.old
  have hFlo : ∀ b, F b → w.heap.size + 2 ≤ b := fun b hb => by have := HFF.out b hb; have := HTZ.out; omega
  have hFhi : ∀ b, F b → b < w1.heap.size := HTB.out.lt
  have HFLO := Lib.hid hFlo; have HFHI := Lib.hid hFhi
  obtain ⟨a0, a1, a2, _, _, _, _⟩ := HT2.out.a.cells
  obtain ⟨b0, b1, b2, _, _, _, hbl⟩ := HT2.out.b.cells
  have KS : Hid (∀ w' : World, Off F wr w' → (w'.cell? ⟨w1.heap.size, 0, none⟩ = some (.slice (some ⟨gL, 0, none⟩) 997 997) ∧ w'.cell? ⟨w1.heap.size, 1, none⟩ = some (.slice (some ⟨gC, 0, none⟩) 1 1) ∧
      w'.cell? ⟨w.heap.size, 0, none⟩ = some (.int .i64 n) ∧ w'.cell? ⟨w.heap.size, 1, none⟩ = some (.string S) ∧ w'.cell? ⟨w.heap.size, 2, none⟩ = some (.string R) ∧
      w'.cell? ⟨w.heap.size + 1, 0, none⟩ = some (.int .i64 m) ∧ w'.cell? ⟨w.heap.size + 1, 1, none⟩ = some (.string S2) ∧ w'.cell? ⟨w.heap.size + 1, 2, none⟩ = some (.string R2))) := by
    intro w' h
    have n0 : ¬ F w1.heap.size := fun e => by have := HFHI.out _ e; omega
    have n1 : ¬ F w.heap.size := fun e => by have := HFLO.out _ e; omega
    have n2 : ¬ F (w.heap.size + 1) := fun e => by have := HFLO.out _ e; omega
    have l0 : w1.heap.size < wr.heap.size := by omega
    have l1 : w.heap.size < wr.heap.size := by omega
    refine ⟨(h.cell (p := ⟨w1.heap.size, 0, none⟩) l0 n0).trans q0, (h.cell (p := ⟨w1.heap.size, 1, none⟩) l0 n0).trans q1, (h.cell (p := ⟨w.heap.size, 0, none⟩) l1 n1).trans a0, (h.cell (p := ⟨w.heap.size, 1, none⟩) l1 n1).trans a1, (h.cell (p := ⟨w.heap.size, 2, none⟩) l1 n1).trans a2, (h.cell (p := ⟨w.heap.size + 1, 0, none⟩) hbl n2).trans b0, (h.cell (p := ⟨w.heap.size + 1, 1, none⟩) hbl n2).trans b1, (h.cell (p := ⟨w.heap.size + 1, 2, none⟩) hbl n2).trans b2⟩
  have hsw := HB2.out.size
  have noF : ∀ {v : Value}, (∀ j, v.ownBlock = some j → j < w.heap.size ∨ v = .slice none 0 0) → ∀ G : Nat → Prop, (∀ b, G b → w.heap.size ≤ b) → ∀ j, v.ownBlock = some j → ¬ G j := by
    intro v h G hG j hj e
    rcases h j hj with h1 | h1
    · have := hG j e; omega
    · rw [h1] at hj; cases hj
  have hty1 : ∀ W, Below wr.heap.size wr W → Calls Tryd.prog 68 #[tblV gL gC, strV n S R, va, .int .i64 (k : Int)] W (Typed gL gC F [] (stOf n S R) k la W) := by
    intro W hW
    refine l5Type_any k (by omega) gL gC F vs [] n S R va la W ⟨HTR.out.below hW, ?_, HP.out.hS, HP.out.hR, HP.out.hn, (HVA.out.below HB2.out).below hW, noF HVA0.out F (fun b hb => by have := HFLO.out b hb; omega), HP.out.hl8, HP.out.ha⟩
    have := calls_le n k HP.out.hn hk
    simp; omega
  have hty2 : ∀ (W : World) (F2 : Nat → Prop) (vs2 : Array Value) (E : List (List UInt8)), Tbl W gL gC F2 vs2 ([] ++ E) → E.length ≤ callsN n k → Off F wr W → (∀ b, F2 b → F b ∨ wr.heap.size ≤ b) →
      Calls Tryd.prog 68 #[tblV gL gC, strV m S2 R2, vb, .int .i64 (k : Int)] W (Typed gL gC F2 ([] ++ E) (stOf m S2 R2) k lb W) := by
    intro W F2 vs2 E h1 h2 h3 h4
    refine l5Type_any k (by omega) gL gC F2 vs2 ([] ++ E) m S2 R2 vb lb W ⟨h1, ?_, HP.out.hS2, HP.out.hR2, HP.out.hm, (HVB.out.below HB2.out).off h3 (noF HVB0.out F (fun b hb => by have := HFLO.out b hb; omega)), noF HVB0.out F2 (fun b hb => by rcases h4 b hb with h5 | h5; (have := HFLO.out b h5; omega); omega), by rw [← HP.out.hl]; exact HP.out.hl8, HP.out.hb⟩
    have c1 := calls_le n k HP.out.hn hk
    have c2 := calls_le m k HP.out.hm hk
    have h5 : E.length ≤ 585 := Nat.le_trans h2 c1
    simp; omega
  unfold tblV strV at hty1 hty2
  have HTY1 := Lib.hid hty1; have HTY2 := Lib.hid hty2
  clear hty1 hty2 noF hFlo hFhi hwr hbw HT HT1 HTB HTZ
  go_region_held3 (fun w' => w'.cell? ⟨w1.heap.size, 0, none⟩ = some (.slice (some ⟨gL, 0, none⟩) 997 997) ∧ w'.cell? ⟨w1.heap.size, 1, none⟩ = some (.slice (some ⟨gC, 0, none⟩) 1 1) ∧ w'.cell? ⟨w.heap.size, 0, none⟩ = some (.int .i64 n) ∧ w'.cell? ⟨w.heap.size, 1, none⟩ = some (.string S) ∧ w'.cell? ⟨w.heap.size, 2, none⟩ = some (.string R) ∧ w'.cell? ⟨w.heap.size + 1, 0, none⟩ = some (.int .i64 m) ∧ w'.cell? ⟨w.heap.size + 1, 1, none⟩ = some (.string S2) ∧ w'.cell? ⟨w.heap.size + 1, 2, none⟩ = some (.string R2))
    (first | exact KS.out _ HOF.out | go_keep)
    (first | ((with_reducible refine (HTY1.out _ (Below.refl _ _).drew).mono ?_); rintro e w3 ⟨num, F2, vs2, E2, rfl, ht, hE, hn2, hoff, hF2⟩; have HOF := Lib.hid ((Off.of_below (F := F) (Below.refl wr.heap.size wr).drew).trans hoff (fun b hb => .inl hb)); have hF2' : ∀ b, F2 b → F b ∨ wr.heap.size ≤ b := hF2; have hE' : E2.length ≤ callsN n k := hE; have HTY3 := Lib.hid (And.intro ht (And.intro hE' (And.intro hn2 hF2'))); clear ht hE hn2 hoff hF2 hF2' hE') | ((with_reducible refine (HTY2.out _ F2 vs2 E2 HTY3.out.1 HTY3.out.2.1 HOF.out HTY3.out.2.2.2).mono ?_); rintro e w4 ⟨num2, F3, vs3, E3, rfl, ht, hE, hn2, hoff, hF3⟩; have HEQ := Lib.hid (wins_num ht.nodup HP.out.hl HTY3.out.2.2.1.more hn2); have HOF := Lib.hid (HOF.out.trans hoff HTY3.out.2.2.2); have HB4 : Hid (Below w.heap.size w w4) := HB2.out.trans (HOF.out.below hsw (fun b hb => by have := HFLO.out b hb; omega)); clear ht hE hn2 hoff hF3) | fail)
  all_goals
    go_wp2_with fail
    go_ret
    exact ⟨ret_bool HEQ.out, HB4.out⟩
end Go.Proofs.YtagnikcnakdehaaDoor
