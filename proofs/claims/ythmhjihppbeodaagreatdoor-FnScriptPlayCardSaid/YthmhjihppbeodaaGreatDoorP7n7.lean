/- Contracts of the program's functions and what they compute: part 7. Conditions: those that each theorem states. -/
import Derived.Test.YthmhjihppbeodaaGreatDoorP7n6
import Derived.OwnWalk
namespace Go.Proofs.YthmhjihppbeodaaGreatDoor
open Go.RowKit
set_option linter.unusedVariables false
set_option maxRecDepth 100000
/-- The first choice that cannot be answered. -/
def noRep (a : Gs.St) (la : List Nat) (b : Gs.St) (lb : List Nat) (k : Nat) : Option Nat := (List.range a.n).find? fun x => !(replyB a la b lb k x).isSome
def moveV (a : Gs.St) (la : List Nat) (b : Gs.St) (lb : List Nat) (k : Nat) : Value :=
  match noRep a la b lb k with
  | some x => .tuple #[.string ⟨#[97]⟩, .int .i64 (x : Int), .bool true]
  | none => match noRep b lb a la k with
    | some y => .tuple #[.string ⟨#[98]⟩, .int .i64 (y : Int), .bool true]
    | none => .tuple #[.string ⟨#[]⟩, .int .i64 0, .bool false]
theorem noRep_at {a : Gs.St} {la : List Nat} {b : Gs.St} {lb : List Nat} {k x : Nat} (hx : x < a.n) (h : ∀ z, z < x → (replyB a la b lb k z).isSome = true) (hn : (replyB a la b lb k x).isSome = false) : noRep a la b lb k = some x :=
  find_at hx (fun z hz => by simp [h z hz]) (by simp [hn])
theorem noRep_none {a : Gs.St} {la : List Nat} {b : Gs.St} {lb : List Nat} {k : Nat} (h : ∀ z, z < a.n → (replyB a la b lb k z).isSome = true) : noRep a la b lb k = none := by
  unfold noRep
  rw [List.find?_eq_none]
  intro z hz
  simp [h z (List.mem_range.1 hz)]
theorem moveV_a {a : Gs.St} {la : List Nat} {b : Gs.St} {lb : List Nat} {k x : Nat} (h : noRep a la b lb k = some x) : moveV a la b lb k = .tuple #[.string ⟨#[97]⟩, .int .i64 (x : Int), .bool true] := by unfold moveV; rw [h]
theorem moveV_b {a : Gs.St} {la : List Nat} {b : Gs.St} {lb : List Nat} {k y : Nat} (h0 : noRep a la b lb k = none) (h : noRep b lb a la k = some y) : moveV a la b lb k = .tuple #[.string ⟨#[98]⟩, .int .i64 (y : Int), .bool true] := by unfold moveV; rw [h0, h]
theorem moveV_no {a : Gs.St} {la : List Nat} {b : Gs.St} {lb : List Nat} {k : Nat} (h0 : noRep a la b lb k = none) (h : noRep b lb a la k = none) : moveV a la b lb k = .tuple #[.string ⟨#[]⟩, .int .i64 0, .bool false] := by unfold moveV; rw [h0, h]
theorem ret_v {a b : Value} (h : a = b) : Ending.returned a = .returned b := by rw [h]
set_option maxHeartbeats 2000000 in
theorem firstMove_any (k : Nat) (hk : k ≤ 7) (n : Nat) (S R : ByteArray) (m : Nat) (S2 R2 : ByteArray) (va vb : Value) (la lb : List Nat) (w : World) (hp : Pos n S R m S2 R2 la lb (k + 1))
    (hva : NumsAt w va la) (hvb : NumsAt w vb lb) (hs : Gs.same (stOf n S R) la (stOf m S2 R2) lb = true) :
    Calls Tryz.prog 29 #[strV n S R, va, strV m S2 R2, vb, .int .i64 ((k : Int) + 1)] w fun e w' => e = .returned (moveV (stOf n S R) la (stOf m S2 R2) lb k) ∧ Below w.heap.size w w' := by
  have HR := Lib.hid (replyTo_any k (by omega) (Lib.hid (goesOn_any k (by omega))))
  have HT := Lib.hid (Two.new w n S R m S2 R2)
  unfold boxS at HT
  have hSm := fun w' (h : Below w.heap.size w w') => sameWay_any n S R m S2 R2 va vb la lb w' hp.hS hp.hR hp.hn hp.hS2 hp.hR2 hp.hm (hva.below h) (hvb.below h) hp.hl (by have := hp.hl8; omega) hp.ha hp.hb
  rw [hs] at hSm
  have r1 : ∀ x w', Below w.heap.size w w' → x < n → Calls Tryz.prog 44 #[strV n S R, va, strV m S2 R2, vb, .int .i64 ((k : Int) + 1), .int .i64 (x : Int)] w' fun e w2 =>
    e = .returned (optV (replyB (stOf n S R) la (stOf m S2 R2) lb k x)) ∧ Below w'.heap.size w' w2 := by
    intro x w' hb hx
    have h := HR.out n S R m S2 R2 va vb la lb x w' hp (hva.below hb) (hvb.below hb) hx
    rw [if_pos hs] at h
    exact h
  have r2 : ∀ x w', Below w.heap.size w w' → x < m → Calls Tryz.prog 44 #[strV m S2 R2, vb, strV n S R, va, .int .i64 ((k : Int) + 1), .int .i64 (x : Int)] w' fun e w2 =>
    e = .returned (optV (replyB (stOf m S2 R2) lb (stOf n S R) la k x)) ∧ Below w'.heap.size w' w2 := by
    intro x w' hb hx
    have h := HR.out m S2 R2 n S R vb va lb la x w' hp.swap (hvb.below hb) (hva.below hb) hx
    rw [if_pos (by rw [same_swap hp.hl]; exact hs)] at h
    exact h
  have hn := hp.hn; have hm := hp.hm
  obtain ⟨RES, hres⟩ : ∃ p, moveV (stOf n S R) la (stOf m S2 R2) lb k = p := ⟨_, rfl⟩
  rw [hres]
  have HRES := Lib.hid hres
  unfold strV at r1 r2 hSm
  obtain ⟨K, hK⟩ : ∃ K : Int, (k : Int) + 1 = K := ⟨_, rfl⟩
  have e0 : (K == 0) = false := by simp; omega
  have e0N : ¬ K = 0 := by omega
  rw [hK] at r1 r2 ⊢
  clear hK
  have R1 := Lib.hid r1; have RR2 := Lib.hid r2; have HSm := Lib.hid hSm
  clear hres hp hva hvb hs r1 r2 hSm
  obtain ⟨c0, c1, c2, f0, f1, f2, hl1⟩ := HT.out.a.cells
  obtain ⟨d0, d1, d2, g0, g1, g2, hl2⟩ := HT.out.b.cells
  unfold strV
  go_enter Tryz.func29, Tryz.ntmps29
  go_wp2_with fail
  refine (HSm.out _ HT.out.old).mono ?_; rintro e w0 ⟨rfl, hb⟩
  have HT0 := Lib.hid (HT.out.below hb)
  clear hb c0 c1 c2 f0 f1 f2 hl1 d0 d1 d2 g0 g1 g2 hl2 HSm
  obtain ⟨c0, c1, c2, f0, f1, f2, hl1⟩ := HT0.out.a.cells
  go_wp2_with fail
  go_loopw [31] (fun i wr => ∃ x : Nat, x ≤ n ∧ i = .int .i64 x ∧ Hid (Two w wr n S R m S2 R2) ∧ Hid (∀ z, z < x → (replyB (stOf n S R) la (stOf m S2 R2) lb k z).isSome = true)) (fun i _ => n - (intOf i).toNat)
  case atStart => exact ⟨0, by omega, rfl, HT0.out, fun j hj => by omega⟩
  case round =>
    obtain ⟨x, hx, rfl, HT2, HK⟩ := hrel
    clear c0 c1 c2 f0 f1 f2 hl1
    by_cases hlt : x < n
    · have j1 := R1.out x
      obtain ⟨p, hp⟩ := optV_form (replyB (stOf n S R) la (stOf m S2 R2) lb k x)
      rw [hp] at j1
      have HN := Lib.hid (fun h => moveV_a (noRep_at (k := k) (a := stOf n S R) (la := la) (b := stOf m S2 R2) (lb := lb) (x := x) hlt HK.out h))
      obtain ⟨c, hc⟩ : ∃ c, (replyB (stOf n S R) la (stOf m S2 R2) lb k x).isSome = c := ⟨_, rfl⟩
      rw [hc] at j1 HN
      have HC := Lib.hid hc
      have J1 := Lib.hid j1
      clear j1 hc hp
      obtain ⟨c0, c1, c2, f0, f1, f2, hl1⟩ := HT2.out.a.cells
      obtain ⟨d0, d1, d2, g0, g1, g2, hl2⟩ := HT2.out.b.cells
      cases c
      · go_wp2_with fail
        refine (J1.out _ HT2.out.old hlt).mono ?_; rintro e w1 ⟨rfl, hb⟩
        have HT3 := Lib.hid (HT2.out.below hb); clear hb
        go_wp2_with fail
        go_ret3
        exact ⟨ret_v (by rw [← HRES.out]; exact (HN.out (by simp)).symm), HT3.out.old⟩
      · go_wp2_with fail
        refine (J1.out _ HT2.out.old hlt).mono ?_; rintro e w1 ⟨rfl, hb⟩
        have HT3 := Lib.hid (HT2.out.below hb); clear hb
        go_wp2_with fail
        go_roundw
        case rel =>
          refine ⟨x + 1, by omega, by go_num, HT3.out, fun z hz => ?_⟩
          by_cases hzy : z = x
          · rw [hzy]; exact HC.out
          · exact HK.out z (by omega)
        case measure => simp [intOf]; omega
    · obtain ⟨d0, d1, d2, g0, g1, g2, hl2⟩ := HT2.out.b.cells
      have HK1 : Hid (noRep (stOf n S R) la (stOf m S2 R2) lb k = none) := noRep_none fun z hz => HK.out z (by have hz : z < n := hz; omega)
      clear HK HT HT0
      go_wp2_with fail
      go_loopw [50] (fun i wr => ∃ x : Nat, x ≤ m ∧ i = .int .i64 x ∧ Hid (Two w wr n S R m S2 R2) ∧ Hid (∀ z, z < x → (replyB (stOf m S2 R2) lb (stOf n S R) la k z).isSome = true)) (fun i _ => m - (intOf i).toNat)
      case atStart => exact ⟨0, by omega, rfl, HT2.out, fun j hj => by omega⟩
      case round =>
        obtain ⟨y, hy, rfl, HT4, HK⟩ := hrel
        clear d0 d1 d2 g0 g1 g2 hl2
        by_cases hlt2 : y < m
        · have j1 := RR2.out y
          obtain ⟨p, hp⟩ := optV_form (replyB (stOf m S2 R2) lb (stOf n S R) la k y)
          rw [hp] at j1
          have HN := Lib.hid (fun h => moveV_b HK1.out (noRep_at (k := k) (a := stOf m S2 R2) (la := lb) (b := stOf n S R) (lb := la) (x := y) hlt2 HK.out h))
          obtain ⟨c, hc⟩ : ∃ c, (replyB (stOf m S2 R2) lb (stOf n S R) la k y).isSome = c := ⟨_, rfl⟩
          rw [hc] at j1 HN
          have HC := Lib.hid hc
          have J1 := Lib.hid j1
          clear j1 hc hp
          obtain ⟨c0, c1, c2, f0, f1, f2, hl1⟩ := HT4.out.a.cells
          obtain ⟨d0, d1, d2, g0, g1, g2, hl2⟩ := HT4.out.b.cells
          cases c
          · go_wp2_with fail
            refine (J1.out _ HT4.out.old hlt2).mono ?_; rintro e w1 ⟨rfl, hb⟩
            have HT3 := Lib.hid (HT4.out.below hb); clear hb
            go_wp2_with fail
            go_ret3
            exact ⟨ret_v (by rw [← HRES.out]; exact (HN.out (by simp)).symm), HT3.out.old⟩
          · go_wp2_with fail
            refine (J1.out _ HT4.out.old hlt2).mono ?_; rintro e w1 ⟨rfl, hb⟩
            have HT3 := Lib.hid (HT4.out.below hb); clear hb
            go_wp2_with fail
            go_roundw
            case rel =>
              refine ⟨y + 1, by omega, by go_num, HT3.out, fun z hz => ?_⟩
              by_cases hzy : z = y
              · rw [hzy]; exact HC.out
              · exact HK.out z (by omega)
            case measure => simp [intOf]; omega
        · have HE : Hid (moveV (stOf n S R) la (stOf m S2 R2) lb k = .tuple #[.string ⟨#[]⟩, .int .i64 0, .bool false]) := moveV_no HK1.out (noRep_none fun z hz => HK.out z (by have hz : z < m := hz; omega))
          clear HK HK1
          go_wp2_with fail
          go_ret3
          exact ⟨ret_v (by rw [← HRES.out]; exact HE.out.symm), HT4.out.old⟩
end Go.Proofs.YthmhjihppbeodaaGreatDoor
