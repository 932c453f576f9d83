/- The draw of the arguments of OrderReply. Condition: the bytes are readable. -/
import Derived.Test.YtagnikcnakdehaaDoorRd
import Derived.Deep.RegionHeld3
import Derived.Deep.DeepCutAuto
namespace Go.Proofs.YtagnikcnakdehaaDoor
open Go.RowKit
set_option linter.unusedVariables false

theorem grown_of_below {w w' : World} (h : Below w.heap.size w w') : w.grownBy w' none := ⟨h.os, h.tape, h.output, h.size, fun k hk _ => h.block k hk⟩
theorem results_tmp4 {fn : Func} {t u v x : Tmp} (h : fn.results = #[.tmp t, .tmp u, .tmp v, .tmp x]) (tmps : Array Value) (P : Program) (w : World) :
    (results fn tmps).run P w = .ok (.tuple #[tmps.getD t undef, tmps.getD u undef, tmps.getD v undef, tmps.getD x undef]) w := by
  simp [results, h]
/-- Four numbers that are drawn. -/
def Draw4 (w : World) (e : Ending) (w' : World) : Prop :=
  ∃ n m r x : Int, e = .returned (.tuple #[.int .i64 n, .int .i64 m, .int .i64 r, .int .i64 x]) ∧ (-1 ≤ n ∧ n ≤ 1000003) ∧ (-1 ≤ m ∧ m ≤ 1000003) ∧ (-1 ≤ r ∧ r ≤ 11) ∧ (-1 ≤ x ∧ x ≤ 9223372036854775807) ∧ Below w.heap.size w w'

set_option maxHeartbeats 4000000 in
theorem DrawOrderReply_any (w : World) (a : Option Addr) (len cap : Nat) (zs : List Int) (h : IsRow .u8 w a len cap zs) :
    Calls Tryd.prog 31 #[.slice a len cap] w (Draw4 w) := by
  have H := Lib.hid h; clear h
  go_enter Tryd.func31, Tryd.ntmps31
  go_wp2_with fail
  refine (l15Open_any _ _ _ _ _ H.out).mono ?_; rintro e w1 ⟨rfl, hr, hb, hs⟩
  have HR := Lib.hid hr; have HB := Lib.hid hb; clear hr hb hs
  obtain ⟨B, hB⟩ : ∃ B, w.heap.size = B := ⟨_, rfl⟩
  rw [hB] at HR
  have HW := Lib.hid hB; 
  rw [hB]
  clear hB
  go_wp2_with fail
  refine (DrawOrdersAlike_any _ _ _ _ _ (H.out.below HB.out)).mono ?_; rintro e w2 ⟨n, m, r, rfl, hn, hm, hr, hb⟩
  have HR2 : Hid (RdB w2 B 0) := by
    have h1 := HR.out
    exact h1.grown (grown_of_below hb)
  have HB2 := Lib.hid (HB.out.trans (hb.mono HB.out.size)); clear hb HR
  go_wp2_with fail
  refine (pickB _ _ _ _ HR2.out (by omega) (by omega) (by omega)).mono ?_; rintro e w3 ⟨c, rfl, c0, c1, hr3, hg3⟩
  have HR3 := Lib.hid hr3
  have HB3 : Hid (Below w.heap.size w w3) := below_of_grown HB2.out (Nat.le_of_eq HW.out) hg3
  clear hr3 hg3
  by_cases hc : c = 0
  · subst hc
    go_wp2_with fail
    refine (num_list w3 _ _ [-1, n, 9223372036854775807] _ HR3.out (by omega) (by simp) (by simp)).mono ?_; rintro e w4 ⟨x, hx, rfl, hr4, hg4⟩
    have hx' : -1 ≤ x ∧ x ≤ 9223372036854775807 := by
      simp at hx
      omega
    have HP : Hid (Draw4 w (.returned (.tuple #[.int .i64 n, .int .i64 m, .int .i64 r, .int .i64 x])) w4) := ⟨n, m, r, x, rfl, hn, hm, hr, hx', below_of_grown HB3.out (Nat.le_of_eq HW.out) hg4⟩
    clear hr4 hg4 hx hx'
    go_wp2
    (try simp only [Exit.inBlock, Exit.then])
    refine bodyPost_ret (results_tmp4 rfl _ _ _) rfl ?_
    exact HP.out
  · have hc' : (c == 0) = false := by simpa using hc
    clear hc
    have hbd : Below w3.heap.size w3 w3.drew := ⟨rfl, rfl, rfl, Nat.le_refl _, fun _ _ => rfl⟩
    have HR3d := Lib.hid (HR3.out.grown (grown_of_below hbd))
    have HB3d := Lib.hid (HB3.out.trans (hbd.mono HB3.out.size))
    clear hbd
    have HEN : Hid (∀ (w4 : World) (y : Int), -1 ≤ y ∧ y ≤ 9223372036854775807 → w3.drew.grownBy w4 (some B) → Draw4 w (.returned (.tuple #[.int .i64 n, .int .i64 m, .int .i64 r, .int .i64 y])) w4) := fun w4 y hy hg => ⟨n, m, r, y, rfl, hn, hm, hr, hy, below_of_grown HB3d.out (Nat.le_of_eq HW.out) hg⟩
    by_cases hn1 : n < 1
    · go_wp2_with fail
      go_region_with (first | (go_at_call 75; refine (pickB _ _ _ _ HR3d.out (by omega) (by omega) (by omega)).mono ?_; rintro e w4 ⟨x, rfl, x0, x1, hr4, hg4⟩))
      all_goals
        go_wp2
        (try simp only [Exit.inBlock, Exit.then])
        refine bodyPost_ret (results_tmp4 rfl _ _ _) rfl ?_
        refine HEN.out _ _ ?_ hg4
        first | omega | (have h1 := Int.tmod_nonneg 1 x0; have h2 := Int.tmod_lt_of_pos x (b := 1) (by omega); omega) | simp
    · have hn0 : ¬ n = 0 := by omega
      go_wp2_with fail
      go_region_with (first | (go_at_call 75; refine (pickB _ _ _ _ HR3d.out (by omega) (by omega) (by omega)).mono ?_; rintro e w4 ⟨x, rfl, x0, x1, hr4, hg4⟩))
      all_goals
        go_wp2
        (try simp only [Exit.inBlock, Exit.then])
        refine bodyPost_ret (results_tmp4 rfl _ _ _) rfl ?_
        refine HEN.out _ _ ?_ hg4
        (have h1 := Int.emod_nonneg x (b := n) (by omega); have h2 := Int.emod_lt_of_pos x (b := n) (by omega); have h3 := Int.tmod_nonneg n x0; have h4 := Int.tmod_lt_of_pos x (b := n) (by omega); omega)
end Go.Proofs.YtagnikcnakdehaaDoor
