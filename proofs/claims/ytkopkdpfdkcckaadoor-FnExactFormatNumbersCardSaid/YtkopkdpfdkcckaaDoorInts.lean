/- Lists of numbers: toIntS and eqIntS of the laws. Condition: the list is not too long. -/
import Derived.Test.YtkopkdpfdkcckaaDoorDraw
import Derived.OwnWalk
import Derived.Laws.OwnMore
import Derived.Deep.QuietTactic
import Derived.BigQuiet
namespace Go.Proofs.YtkopkdpfdkcckaaDoor
open Go.RowKit
set_option linter.unusedVariables false

/-- A slice of a call's own that holds numbers. -/
structure IntsOut (w w' : World) (v : Value) (ys : List Int) : Prop where
  form : v = .slice (some ⟨w.heap.size, 0, none⟩) ys.length ys.length
  lt : w.heap.size < w'.heap.size
  cells : ∀ j (h : j < ys.length), w'.cell? ⟨w.heap.size, j, none⟩ = some (.int .i64 ys[j])
  old : Below w.heap.size w w'

theorem intInfo3 : (Tryd.prog.info? 3).map (fun i => (i.zero, i.size, i.bytes)) = some (some (.int .i64 0), 1, 8) := by kernel_rfl

theorem toIntS_any (w : World) (a : Option Addr) (len cap : Nat) (zs : List Int) (h : IsRow .i64 w a len cap zs) (hl : (len : Int) ≤ 1048576) :
    Calls Tryd.prog 15 #[.slice a len cap] w fun e w' => ∃ v, e = .returned v ∧ IntsOut w w' v (zs.take len) := by
  have hA : 0 < len → ∃ b off, a = some ⟨b, off, none⟩ ∧ b < w.heap.size ∧ ∀ k, k < len → w.cell? ⟨b, off + k, none⟩ = some (.int .i64 (zs.getD k 0)) := by
    intro h0
    rcases h with ⟨_, rfl, _⟩ | ⟨x, rfl, h2, h3, h4, h5, h6⟩
    · omega
    · obtain ⟨b, off, rfl, hc⟩ := ints_at h5 (by omega)
      exact ⟨b, off, rfl, World.block_lt_of_cell? w _ (hc 0 (by omega)), fun k hk => hc k (by omega)⟩
  have hT : ∀ k (hk : k < (zs.take len).length), (zs.take len)[k] = zs.getD k 0 := by
    intro k hk
    rw [List.length_take] at hk
    rw [List.getElem_take, List.getD_eq_getElem?_getD, List.getElem?_eq_getElem (by omega)]
    rfl
  have hzl : (zs.take len).length = len := by
    rw [List.length_take]
    rcases h with ⟨_, rfl, _⟩ | ⟨x, rfl, hlc, _, hzl, hc, _⟩ <;> omega
  have HA := Lib.hid hA
  have HTk := Lib.hid hT; clear hT
  have HZ := Lib.hid hzl
  clear hA hzl h
  obtain ⟨i, hi, hz, h1, h2⟩ := info_parts intInfo3
  have hb2 : i.bytes * len ≤ 281474976710656 := by rw [h2]; omega
  have hb3 : len ≤ maxLen := by unfold maxLen; omega
  have HMk := Lib.hid (And.intro hb2 hb3); clear hb2 hb3
  have HI := Lib.hid (And.intro hi (And.intro hz h1)); clear hi hz h1 h2
  go_enter Tryd.func15, Tryd.ntmps15
  go_wp2_with (first | (refine wpList_make_full w rfl (.tmp 6) (.tmp 6) 23 rfl w.heap.size 3 i (.int .i64 0) 1 Tryd.underlying23 HI.out.1 HI.out.2.1 HI.out.2.2 .i64 .i64 (len : Int) (len : Int) len rfl rfl rfl rfl HMk.out.1 HMk.out.2 (Nat.le_refl _) ?_; intro w1 hown hgr; have HO := Lib.hid hown; have HG := Lib.hid hgr; clear hown hgr) | fail)
  have HB1 : Hid (Below w.heap.size w w1) := ((Below.refl _ _).grown HG.out (Nat.le_refl _) (fun k hk => by cases hk))
  have HX : Hid (∃ xs : List Value, w1.ownsRow w.heap.size 3 1 (.slice (some ⟨w.heap.size, 0, none⟩) len len) len xs ∧ ∀ j, j < 0 → xs[j]? = some (.int .i64 (zs.getD j 0))) := ⟨_, HO.out, fun j hj => by omega⟩
  clear HO HG HI HMk
  go_loopw [4] (fun i wr => ∃ k : Nat, k ≤ len ∧ i = .int .i64 k ∧ Hid (∃ xs : List Value, wr.ownsRow w.heap.size 3 1 (.slice (some ⟨w.heap.size, 0, none⟩) len len) len xs ∧ ∀ j, j < k → xs[j]? = some (.int .i64 (zs.getD j 0))) ∧ Hid (Below w.heap.size w wr)) (fun i _ => len - (intOf i).toNat)
  case atStart => exact ⟨0, by omega, rfl, HX.out, HB1.out⟩
  case round =>
    obtain ⟨k, hk, rfl, HXr, HB⟩ := hrel
    by_cases hlt : k < len
    · obtain ⟨b, off, rfl, hb, hc⟩ := HA.out (by omega)
      have hck := (HB.out.cell (p := ⟨b, off + k, none⟩) hb).trans (hc k hlt)
      obtain ⟨xs, hown, hxs⟩ := HXr.out
      have hlx : xs.length = len := by simpa using hown.1
      have hcd : wr.cell? ⟨w.heap.size, k, none⟩ = some xs[k] := by
        rw [hown.cellAt k (by omega)]; exact List.getElem?_eq_getElem (by omega)
      have hfd := hown.frozenAt k
      obtain ⟨z, hz⟩ : ∃ z, zs.getD k 0 = z := ⟨_, rfl⟩
      rw [hz] at hck
      obtain ⟨u, hu⟩ : ∃ u, xs[k] = u := ⟨_, rfl⟩
      rw [hu] at hcd
      have HS := Lib.hid (hown.stored k (.int .i64 z))
      have HX2 : Hid (∃ xs : List Value, (wr.setCell ⟨w.heap.size, k, none⟩ (.int .i64 z)).ownsRow w.heap.size 3 1 (.slice (some ⟨w.heap.size, 0, none⟩) len len) len xs ∧ ∀ j, j < k + 1 → xs[j]? = some (.int .i64 (zs.getD j 0))) := by
        refine ⟨_, HS.out.1, fun j hj => ?_⟩
        rw [List.getElem?_set]
        by_cases hjk : k = j
        · subst hjk
          rw [if_pos rfl, if_pos (by omega), hz]
        · rw [if_neg hjk]
          exact hxs j (by omega)
      have HB2 : Hid (Below w.heap.size w (wr.setCell ⟨w.heap.size, k, none⟩ (.int .i64 z))) := HB.out.setCell (Nat.le_refl _) _
      clear hc hown hxs hlx hz hu HS
      go_wp2_with fail
      go_roundw
      case rel => exact ⟨k + 1, by omega, by go_num, HX2.out, HB2.out⟩
      case measure => simp [intOf]; omega
    · have hkn : k = len := by omega
      have HE : Hid (IntsOut w wr (.slice (some ⟨w.heap.size, 0, none⟩) len len) (zs.take len)) := by
        obtain ⟨xs, hown, hxs⟩ := HXr.out
        refine ⟨by rw [HZ.out], ?_, fun j hj => ?_, HB.out⟩
        · exact (hown.lt w.heap.size rfl).2
        · rw [HZ.out] at hj
          rw [hown.cellAt j (by omega), hxs j (by omega), HTk.out]
      have HK := Lib.hid hkn; clear hkn
      go_wp2_with fail
      go_ret
      exact ⟨_, rfl, HE.out⟩

theorem eqIntS_same (ys : List Int) (g1 g2 : Nat) (w : World) (hl : ys.length ≤ 9000000000000)
    (h1 : ∀ j (h : j < ys.length), w.cell? ⟨g1, j, none⟩ = some (.int .i64 ys[j])) (h2 : ∀ j (h : j < ys.length), w.cell? ⟨g2, j, none⟩ = some (.int .i64 ys[j])) :
    Calls Tryd.prog 17 #[.slice (some ⟨g1, 0, none⟩) ys.length ys.length, .slice (some ⟨g2, 0, none⟩) ys.length ys.length] w fun e w' => e = .returned (.bool true) ∧ Below w.heap.size w w' := by
  have H1 := Lib.hid h1
  have H2 := Lib.hid h2
  clear h1 h2
  obtain ⟨n, hn⟩ : ∃ n, ys.length = n := ⟨_, rfl⟩
  have HN := Lib.hid hn
  rw [hn] at hl ⊢
  clear hn
  go_enter Tryd.func17, Tryd.ntmps17
  go_wp2_with fail
  go_loopw [5] (fun i wr => ∃ k : Nat, k ≤ n ∧ i = .int .i64 k ∧ ∃ q : Nat, wr = w.drewN q) (fun i _ => n - (intOf i).toNat)
  case atStart => exact ⟨0, by omega, rfl, 0, rfl⟩
  case round =>
    obtain ⟨k, hk, rfl, q, rfl⟩ := hrel
    by_cases hlt : k < n
    · have hkl : k < ys.length := by rw [HN.out]; exact hlt
      have c1 := H1.out k hkl
      have c2 := H2.out k hkl
      have hltI : (k : Int) < (n : Int) := by omega
      obtain ⟨z, hz⟩ : ∃ z, ys[k] = z := ⟨_, rfl⟩
      rw [hz] at c1 c2
      clear hz hkl
      go_wp2_with fail
      go_quiet (fail)
      go_wp2_with fail
      go_roundw
      case rel => exact ⟨k + 1, by omega, by go_num, _, rfl⟩
      case measure => simp [intOf]; omega
    · have hltI : ¬ (k : Int) < (n : Int) := by omega
      go_wp2_with fail
      go_ret
      have h := Below.refl w.heap.size w
      exact ⟨rfl, h.os, h.tape, h.output, h.size, h.block⟩
end Go.Proofs.YtkopkdpfdkcckaaDoor
