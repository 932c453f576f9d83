/- The numbers that DrawFormatNumbers draws: at most four, each fits. Condition: the bytes are readable. -/
import Derived.Test.YtmabpmkkleelaaaDoorNums
import Derived.Test.YtmabpmkkleelaaaDoorRd
import Derived.Test.YtmabpmkkleelaaaDoorFmt3
namespace Go.Proofs.YtmabpmkkleelaaaDoor
open Go.RowKit
set_option linter.unusedVariables false

theorem RdAt.far {w w' : World} {b k : Nat} {row : Option Nat} (h : RdAt w b k) (hg : w.grownBy w' row) (hr : ∀ k, row = some k → b < k) : RdAt w' b k := by
  have hb := h.block
  obtain ⟨a, len, cap, f, c0, c1, fr, short, room, hrow⟩ := h
  have hne : ∀ k, k ≤ b → some k ≠ row := fun k hk e => by have := hr k e.symm; omega
  refine ⟨a, len, cap, f, hg.cell c0 (hne _ (Nat.le_refl _)), hg.cell c1 (hne _ (Nat.le_refl _)), ?_, short, room, ?_⟩
  · exact (World.frozen?_of_block (hg.block b hb (hne _ (Nat.le_refl _)))).trans fr
  · rcases hrow with h | ⟨b', off, rfl, hb', hc, hf⟩
    · exact .inl h
    · exact .inr ⟨b', off, rfl, hb', fun j hj => hg.cell (hc j hj) (hne _ (by show b' ≤ b; omega)), hf⟩
theorem RdB.far {w w' : World} {b K : Nat} {row : Option Nat} (h : RdB w b K) (hg : w.grownBy w' row) (hr : ∀ k, row = some k → b < k) : RdB w' b K := by
  obtain ⟨k, h1, h2⟩ := h
  exact ⟨k, h1, h2.far hg hr⟩

/-- The numbers that are drawn. -/
def Six (ys : List Int) : Prop := ∀ z ∈ ys, z = 0 ∨ z = 1 ∨ z = -1 ∨ z = 12 ∨ z = 3 ∨ z = -9223372036854775808
theorem Six.fits {ys : List Int} (h : Six ys) : Fits ys := fun z hz => by
  rcases h z hz with rfl | rfl | rfl | rfl | rfl | rfl <;> decide
def NumsPost (w : World) (e : Ending) (w' : World) : Prop :=
  ∃ ys v, e = .returned v ∧ ys.length ≤ 4 ∧ Six ys ∧ Nums (w.heap.size + 1) w' v ys ∧ Below w.heap.size w w'

set_option maxRecDepth 100000 in
theorem DrawFormatNumbers_any (w : World) (a : Option Addr) (len cap : Nat) (zs : List Int) (h : IsRow .u8 w a len cap zs) :
    Calls Tryd.prog 36 #[.slice a len cap] w (NumsPost w) := by
  have H := Lib.hid h; clear h
  go_enter Tryd.func36, Tryd.ntmps36
  go_wp2_with fail
  refine (l15Open_any _ _ _ _ _ H.out).mono ?_; rintro e w1 ⟨rfl, hr, hb, hs⟩
  have HR := Lib.hid hr; have HB := Lib.hid hb; have HSz := Lib.hid hs; clear hr hb hs
  generalize hB : w.heap.size = B at *
  have HW := Lib.hid hB; clear hB
  go_wp2_with fail
  have HR1 : Hid (RdB (w1.alloc (.cells #[] 3)) B 0) := HR.out.grown (grown_alloc w1 _)
  have HB1 : Hid (Below B w (w1.alloc (.cells #[] 3))) := HB.out.alloc (by rw [HSz.out]; omega) _
  have HN1 : Hid (Nums (B + 1) (w1.alloc (.cells #[] 3)) (.slice (some ⟨w1.heap.size, 0, none⟩) 0 0) []) := Nums.lit0 (B + 1) w1 (by rw [HSz.out]; omega)
  refine (pickB _ _ _ _ HR1.out (by omega) (by omega) (by omega)).mono ?_; rintro e w2 ⟨n, rfl, n0, n1, hr, hg⟩
  have HR2 := Lib.hid hr
  have HN2 := Lib.hid (HN1.out.grown hg (Nat.lt_succ_self _))
  have HB2 : Hid (Below B w w2) := HB1.out.grown hg (by simp [HSz.out]; omega) (fun k hk => by injection hk with hk; omega)
  clear hr hg HR HB HR1 HB1 HN1
  obtain ⟨m, rfl⟩ := Int.eq_ofNat_of_zero_le n0
  have hm4 : m ≤ 4 := by omega
  go_wp2_with fail
  go_loopw [4, 5] (fun p q wr => ∃ ys k, ys.length + k ≤ 4 ∧ q = .int .i64 ((k : Nat) : Int) ∧ Hid (Six ys) ∧ Hid (Nums (B + 1) wr p ys) ∧ Hid (RdB wr B (1 + ys.length)) ∧ Hid (Below B w wr)) (fun _ q _ => (intOf q).toNat)
  case atStart => exact ⟨[], m, by simpa using hm4, rfl, (fun z hz => by cases hz), HN2.out, HR2.out, HB2.out⟩
  case round =>
    obtain ⟨ys, k, hk, rfl, HF, HN, HRD, HBE⟩ := hrel
    clear HN2 HR2 HB2
    by_cases hlt : 0 < k
    · have hltI : (0 : Int) < (k : Int) := by omega
      have HNU := Lib.hid (num_list wr B (1 + ys.length) [0, 1, -1, 12, 3, -9223372036854775808] 3 HRD.out (by omega) (by decide) (by decide))
      simp only [List.length_cons, List.length_nil, List.map_cons, List.map_nil] at HNU
      have HLN := Lib.hid (show ys.length ≤ 2000000 by omega)
      go_wp2_with fail
      refine HNU.out.mono ?_; rintro e w3 ⟨y, hy, rfl, hr, hg⟩
      have HRD3 := Lib.hid hr
      have HN3 := Lib.hid (HN.out.grown hg (Nat.lt_succ_self _))
      have HB3 : Hid (Below B w w3) := HBE.out.grown hg (by have := HN.out.low; omega) (fun k hk => by injection hk with hk; omega)
      have HF3 : Hid (Six (ys ++ [y])) := by
        intro z hz
        rcases List.mem_append.1 hz with hz | hz
        · exact HF.out z hz
        · simp at hz; subst hz
          simpa using hy
      clear hr hg hy HNU
      go_wp2_with (first | (at_builtin; refine wpList_appN HN3.out HLN.out rfl (.tmp 15) (.tmp 19) rfl y _ rfl rfl rfl ?_; intro v1 wn ho hg; have HN4 := Lib.hid ho; have HRD4 := Lib.hid (HRD3.out.far hg (fun k hk => (HN3.out.own.lt k hk).1)); have HB4 : Hid (Below B w wn) := HB3.out.grown hg (by have := HN3.out.low; omega) (fun k hk => by have := (HN3.out.own.lt k hk).1; omega); clear ho hg))
      go_roundw
      case rel => exact ⟨ys ++ [y], k - 1, by simp; omega, by rw [Int.natCast_sub (by omega)]; rfl, HF3.out, HN4.out, by show RdB _ _ _; have := HRD4.out; simpa [Nat.add_assoc] using this, HB4.out⟩
      case measure => simp [intOf]; omega
    · have hltI : ¬ (0 : Int) < (k : Int) := by omega
      have HP : Hid (∀ v, Nums (B + 1) wr v ys → NumsPost w (.returned v) wr) := fun v hv => ⟨ys, v, rfl, by omega, HF.out, by rw [HW.out]; exact hv, by rw [HW.out]; exact HBE.out⟩
      have HPP := Lib.hid (HP.out _ HN.out)
      clear HP HF HN HRD HBE
      go_wp2_with fail
      go_ret
      exact HPP.out
end Go.Proofs.YtmabpmkkleelaaaDoor
