/- Contracts of the program's functions and what they compute: part 37. Conditions: those that each theorem states. -/
import Derived.Test.YtlkemhhkcanmoaaGreatDoorP54n36
import Derived.Test.YtlkemhhkcanmoaaGreatDoorP54n34
import Derived.Test.YtlkemhhkcanmoaaGreatDoorP54n35
import Derived.Deep.RegionHeld3
namespace Go.Proofs.YtlkemhhkcanmoaaGreatDoor
open Go.RowKit
set_option linter.unusedVariables false
theorem fmtB_size (zs : List Int) (h : Fits zs) : (fmtB zs).size ≤ 22 * zs.length := by
  show (Lib.join (zs.map Lib.itoa) [32]).toArray.size ≤ _
  rw [List.size_toArray]
  exact join_size zs h
/-- What FormatNumbers returns. -/
def fmtRes (zs : List Int) : ByteArray := if zs.length = 0 then ⟨#[45]⟩ else fmtB zs
end Go.Proofs.YtlkemhhkcanmoaaGreatDoor

namespace Go.Proofs.YtlkemhhkcanmoaaGreatDoor
open Go.RowKit
set_option linter.unusedVariables false
/-- The text of natural numbers. -/
def numsB (L : List Nat) : ByteArray := fmtRes (L.map fun n : Nat => (n : Int))
theorem numsB_size (L : List Nat) (hb : ∀ x ∈ L, x ≤ 1000000) : (numsB L).size ≤ 22 * L.length + 1 := by
  unfold numsB fmtRes
  split
  · show 1 ≤ _; omega
  · have h := fmtB_size (L.map fun n : Nat => (n : Int)) (by
      intro z hz
      obtain ⟨x, hx, rfl⟩ := List.mem_map.1 hz
      have := hb x hx
      omega)
    rw [List.length_map] at h
    omega
theorem implFmt_nums (v : Value) (L : List Nat) (w : World) (hv : NumsAt w v L) (hl : L.length ≤ 100) (hb : ∀ x ∈ L, x ≤ 1000000) (ht : Tab w) :
    Calls Tryz.prog 11 #[v] w fun e w' => e = .returned (.string (numsB L)) ∧ Below w.heap.size w w' := by
  obtain ⟨a, cap, rfl, l1, l2, l3⟩ := hv.view
  unfold numsB fmtRes
  by_cases h0 : L.length = 0
  · rw [if_pos (by simpa using h0), h0]
    exact implFmt_zero _ _ w
  · obtain ⟨g, o, rfl, hg, hc⟩ := l3 (by omega)
    have hlm : (L.map fun n : Nat => (n : Int)).length = L.length := List.length_map ..
    rw [if_neg (by rw [hlm]; exact h0)]
    have := implFmt_any g o cap (L.map fun n : Nat => (n : Int)) w (by rw [hlm]; exact h0) (by omega) (by
      intro z hz
      obtain ⟨x, hx, rfl⟩ := List.mem_map.1 hz
      have := hb x hx
      omega) ht (by omega) l2 hg (fun j hj => by
      have hj' : j < L.length := by omega
      rw [hc j hj']
      simp [List.getD_eq_getElem?_getD, hj'])
    rw [hlm] at this
    exact this
end Go.Proofs.YtlkemhhkcanmoaaGreatDoor

namespace Go.Proofs.YtlkemhhkcanmoaaGreatDoor
open Go.RowKit
set_option linter.unusedVariables false
set_option maxRecDepth 100000
/-- The line "holds". -/
theorem run_holds (w0 : World) (a : DS) (n m : Nat) (b1 b2 : Bool) (hn : a.n = (n : Int)) (hm : a.m = (m : Int)) (hf : a.f.size ≤ 9223372036854775807) (hv : validB n a.S a.R = true) (hu : validB m a.T a.U = true)
    (h1 : hin a.f (stOf n a.S a.R) = (b1, true)) (h2 : hin a.f (stOf m a.T a.U) = (b2, true)) : RunOK w0 ⟨#[104, 111, 108, 100, 115]⟩ a a (truthB b1 ++ ⟨#[32]⟩ ++ truthB b2) :=
  run_plain w0 _ (by decide) a a _ (plain_holds w0 a _ (fun W d _ _ hD => told_holds a n m b1 b2 hn hm hf hv hu h1 h2 W d hD))
set_option maxHeartbeats 1000000 in
theorem told_set (w0 : World) (ht : Tab w0) (a : DS) (L : List Nat) (hf : a.f.size ≤ 9223372036854775807) (hS : a.S.size ≤ 9223372036854775807) (hR : a.R.size ≤ 9223372036854775807) (hd : defSet a.f a.n a.S a.R = some L) (hl : L.length ≤ 100) (hL : ∀ x ∈ L, x ≤ 1000000) :
    ToldOK w0 ⟨#[115, 101, 116]⟩ a (numsB L) := by
  intro W d hd0 hB hD
  have HDF : Hid (∀ w, Calls Tryz.prog 8 #[strV a.n a.S a.R, .string a.f] w fun e w' => ∃ v, e = .returned (.tuple #[v, .bool true]) ∧ NumsAt w' v L ∧ Below w.heap.size w w') := fun w => by
    refine (implDefined_any a.f hf a.n a.S a.R hS hR w).mono ?_
    rw [hd]
    rintro e w1 ⟨hb, ⟨h, _⟩ | ⟨v, L', h, he, hn⟩⟩
    · cases h
    · injection h with h
      subst h
      exact ⟨v, he, hn, hb⟩
  unfold strV at HDF
  have HDL : Hid (∀ W', Below W.heap.size W W' → (W'.cell? ⟨d, 0, none⟩ = some (.int .i64 a.n) ∧ W'.cell? ⟨d, 1, none⟩ = some (.string a.S) ∧ W'.cell? ⟨d, 2, none⟩ = some (.string a.R) ∧ W'.cell? ⟨d, 6, none⟩ = some (.string a.f))) := fun W' hb => by
    obtain ⟨c0, c1, c2, c3, c4, c5, c6, cf⟩ := (hD.below hb).cells
    exact ⟨c0, c1, c2, c6⟩
  have HD : Hid (DeskAt W d a ∧ Below w0.heap.size w0 W) := ⟨hD, hB⟩
  have HT : Hid (Tab W) := ht.below hB (Nat.le_refl _)
  obtain ⟨c0, c1, c2, c3, c4, c5, c6, cf⟩ := hD.cells
  clear cf hD hB hf hS hR hd
  generalize hb : a = b at HD ⊢
  obtain ⟨n1, S1, R1, m1, T1, U1, fo⟩ := a
  simp only at *
  clear hb
  go_enter Tryz.func105, Tryz.ntmps105
  go_upto_region 19 with fail
  go_region_held3 (fun W' => W'.cell? ⟨d, 0, none⟩ = some (.int .i64 n1) ∧ W'.cell? ⟨d, 1, none⟩ = some (.string S1) ∧ W'.cell? ⟨d, 2, none⟩ = some (.string R1) ∧ W'.cell? ⟨d, 6, none⟩ = some (.string fo))
    (first | exact HDL.out _ HB1.out | exact HDL.out _ (Below.refl _ _).drew | go_keep)
    (first | (go_at_call 8; refine (HDF.out _).mono ?_; rintro e w1 ⟨v, rfl, hn, hb⟩; have HB1 : Hid (Below W.heap.size W w1) := (Below.refl _ _).drew.trans hb; have HN1 := Lib.hid hn; clear hb hn))
  have HF := Lib.hid (implFmt_nums v L w1 HN1.out hl hL (HT.out.below HB1.out (Nat.le_refl _)))
  have HD1 : Hid (DeskAt w1 d b ∧ Off (fun x => x = d) W w1) := ⟨HD.out.1.below HB1.out, Off.of_below HB1.out⟩
  clear HDL HN1 HB1
  go_wp2_with fail
  refine HF.out.mono ?_; rintro e w2 ⟨rfl, hb⟩
  have HD2 : Hid (DeskAt w2 d b ∧ Off (fun x => x = d) W w2) := ⟨HD1.out.1.below hb, HD1.out.2.trans (Off.of_below (F := fun _ => False) hb) (fun _ h => h.elim)⟩
  clear hb
  go_wp2_with fail
  go_ret
  exact ⟨rfl, HD2.out⟩
/-- The line "set". -/
theorem run_set (w0 : World) (ht : Tab w0) (a : DS) (L : List Nat) (hf : a.f.size ≤ 9223372036854775807) (hS : a.S.size ≤ 9223372036854775807) (hR : a.R.size ≤ 9223372036854775807) (hd : defSet a.f a.n a.S a.R = some L) (hl : L.length ≤ 100) (hL : ∀ x ∈ L, x ≤ 1000000) :
    RunOK w0 ⟨#[115, 101, 116]⟩ a a (numsB L) :=
  run_plain w0 _ (by decide) a a _ (plain_set w0 a _ (told_set w0 ht a L hf hS hR hd hl hL))
end Go.Proofs.YtlkemhhkcanmoaaGreatDoor
