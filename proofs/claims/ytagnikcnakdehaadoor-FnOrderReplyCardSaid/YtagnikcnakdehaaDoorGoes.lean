/- The program's goesOn and secondWins: the games of so many rounds. Conditions: the structures are valid, the lists are of their elements. -/
import Derived.Test.YtagnikcnakdehaaDoorReply2
namespace Go.Proofs.YtagnikcnakdehaaDoor
open Go.RowKit
set_option linter.unusedVariables false

theorem optV_form (o : Option Nat) : ∃ p : Int, optV o = .tuple #[.int .i64 p, .bool o.isSome] := by
  cases o
  · exact ⟨0, rfl⟩
  · exact ⟨_, rfl⟩
theorem goes_no1 {k : Nat} {a : Gs.St} {la : List Nat} {b : Gs.St} {lb : List Nat} {x : Nat} (hx : x < a.n) (h : (replyB a la b lb k x).isSome = false) : Gs.goes (k + 1) a la b lb = false := by
  rw [goes_reply, ← Bool.not_eq_true]
  intro hh
  rw [Bool.and_eq_true] at hh
  have := List.all_eq_true.1 hh.1 x (List.mem_range.2 hx)
  rw [h] at this; cases this
theorem goes_no2 {k : Nat} {a : Gs.St} {la : List Nat} {b : Gs.St} {lb : List Nat} {y : Nat} (hy : y < b.n) (h : (replyB b lb a la k y).isSome = false) : Gs.goes (k + 1) a la b lb = false := by
  rw [goes_reply, ← Bool.not_eq_true]
  intro hh
  rw [Bool.and_eq_true] at hh
  have := List.all_eq_true.1 hh.2 y (List.mem_range.2 hy)
  rw [h] at this; cases this
theorem goes_yes {k : Nat} {a : Gs.St} {la : List Nat} {b : Gs.St} {lb : List Nat} (h : ∀ x, x < a.n → (replyB a la b lb k x).isSome = true) (h' : ∀ y, y < b.n → (replyB b lb a la k y).isSome = true) : Gs.goes (k + 1) a la b lb = true := by
  rw [goes_reply, Bool.and_eq_true]
  exact ⟨List.all_eq_true.2 fun x hx => h x (List.mem_range.1 hx), List.all_eq_true.2 fun x hx => h' x (List.mem_range.1 hx)⟩
theorem same_swap {a b : Gs.St} {la lb : List Nat} (hl : la.length = lb.length) : Gs.same b lb a la = Gs.same a la b lb := by
  rw [Bool.eq_iff_iff, Gs.same_iff la.length lb la hl.symm rfl, Gs.same_iff lb.length la lb hl rfl]
  exact ⟨Eq.symm, Eq.symm⟩

theorem goesOn_zero : GoesOK 0 := by
  intro n S R m S2 R2 va vb la lb w hp hva hvb hs
  clear hp hva hvb hs
  unfold strV
  have HB := Lib.hid (Two.new w n S R m S2 R2).old
  unfold boxS at HB
  go_enter Tryd.func160, Tryd.ntmps160
  go_wp2_with fail
  go_ret
  exact ⟨rfl, HB.out⟩

set_option maxRecDepth 100000 in
set_option maxHeartbeats 1000000 in
theorem goesOn_succ (k : Nat) (hk : k ≤ 8) (HR : Hid (ReplyOK k)) : GoesOK (k + 1) := by
  intro n S R m S2 R2 va vb la lb w hp hva hvb hs
  rw [show ((k + 1 : Nat) : Int) = (k : Int) + 1 from rfl]
  have HP := Lib.hid hp
  have HT := Lib.hid (Two.new w n S R m S2 R2)
  unfold boxS at HT
  have r1 : ∀ x w', Below w.heap.size w w' → x < n → Calls Tryd.prog 205 #[strV n S R, va, strV m S2 R2, vb, .int .i64 ((k : Int) + 1), .int .i64 (x : Int)] w' fun e w2 =>
    e = .returned (optV (replyB (stOf n S R) la (stOf m S2 R2) lb k x)) ∧ Below w'.heap.size w' w2 := by
    intro x w' hb hx
    have h := HR.out n S R m S2 R2 va vb la lb x w' hp (hva.below hb) (hvb.below hb) hx
    rw [if_pos hs] at h
    exact h
  have r2 : ∀ x w', Below w.heap.size w w' → x < m → Calls Tryd.prog 205 #[strV m S2 R2, vb, strV n S R, va, .int .i64 ((k : Int) + 1), .int .i64 (x : Int)] w' fun e w2 =>
    e = .returned (optV (replyB (stOf m S2 R2) lb (stOf n S R) la k x)) ∧ Below w'.heap.size w' w2 := by
    intro x w' hb hx
    have h := HR.out m S2 R2 n S R vb va lb la x w' hp.swap (hvb.below hb) (hva.below hb) hx
    rw [if_pos (by rw [same_swap hp.hl]; exact hs)] at h
    exact h
  have hn := hp.hn; have hm := hp.hm
  obtain ⟨RES, hres⟩ : ∃ p, Gs.goes (k + 1) (stOf n S R) la (stOf m S2 R2) lb = p := ⟨_, rfl⟩
  rw [hres]
  have HRES := Lib.hid hres
  unfold strV at r1 r2
  obtain ⟨K, hK⟩ : ∃ K : Int, (k : Int) + 1 = K := ⟨_, rfl⟩
  have e0 : (K == 0) = false := by simp; omega
  rw [hK] at r1 r2 ⊢
  clear hK
  have R1 := Lib.hid r1; have RR2 := Lib.hid r2
  clear hres hp hva hvb hs r1 r2
  obtain ⟨c0, c1, c2, f0, f1, f2, hl1⟩ := HT.out.a.cells
  unfold strV
  go_enter Tryd.func160, Tryd.ntmps160
  go_wp2_with fail
  go_loopw [21] (fun i wr => ∃ x : Nat, x ≤ n ∧ i = .int .i64 x ∧ Hid (Two w wr n S R m S2 R2) ∧ Hid (∀ z, z < x → (replyB (stOf n S R) la (stOf m S2 R2) lb k z).isSome = true)) (fun i _ => n - (intOf i).toNat)
  case atStart => exact ⟨0, by omega, rfl, HT.out, fun j hj => by omega⟩
  case round =>
    obtain ⟨x, hx, rfl, HT2, HK⟩ := hrel
    clear c0 c1 c2 f0 f1 f2 hl1
    by_cases hlt : x < n
    · have j1 := R1.out x
      obtain ⟨p, hp⟩ := optV_form (replyB (stOf n S R) la (stOf m S2 R2) lb k x)
      rw [hp] at j1
      have HN := Lib.hid (fun h => goes_no1 (k := k) (a := stOf n S R) (la := la) (b := stOf m S2 R2) (lb := lb) (x := x) hlt h)
      obtain ⟨c, hc⟩ : ∃ c, (replyB (stOf n S R) la (stOf m S2 R2) lb k x).isSome = c := ⟨_, rfl⟩
      rw [hc] at j1 HN
      have HC := Lib.hid hc
      have J1 := Lib.hid j1
      clear j1 hc hp
      obtain ⟨c0, c1, c2, f0, f1, f2, hl1⟩ := HT2.out.a.cells
      obtain ⟨d0, d1, d2, g0, g1, g2, hl2⟩ := HT2.out.b.cells
      cases c
      · go_wp2_with fail
        refine (J1.out _ HT2.out.old hlt).mono ?_; rintro e w1 ⟨rfl, hb⟩
        have HT3 := Lib.hid (HT2.out.below hb); clear hb
        go_wp2_with fail
        go_ret
        exact ⟨ret_bool (by rw [← HRES.out]; exact (HN.out (by simp)).symm), HT3.out.old⟩
      · go_wp2_with fail
        refine (J1.out _ HT2.out.old hlt).mono ?_; rintro e w1 ⟨rfl, hb⟩
        have HT3 := Lib.hid (HT2.out.below hb); clear hb
        go_wp2_with fail
        go_roundw
        case rel =>
          refine ⟨x + 1, by omega, by go_num, HT3.out, fun z hz => ?_⟩
          by_cases hzy : z = x
          · rw [hzy]; exact HC.out
          · exact HK.out z (by omega)
        case measure => simp [intOf]; omega
    · obtain ⟨d0, d1, d2, g0, g1, g2, hl2⟩ := HT2.out.b.cells
      have HK1 : Hid (∀ z, z < n → (replyB (stOf n S R) la (stOf m S2 R2) lb k z).isSome = true) := fun z hz => HK.out z (by omega)
      clear HK HT
      go_wp2_with fail
      go_loopw [39] (fun i wr => ∃ x : Nat, x ≤ m ∧ i = .int .i64 x ∧ Hid (Two w wr n S R m S2 R2) ∧ Hid (∀ z, z < x → (replyB (stOf m S2 R2) lb (stOf n S R) la k z).isSome = true)) (fun i _ => m - (intOf i).toNat)
      case atStart => exact ⟨0, by omega, rfl, HT2.out, fun j hj => by omega⟩
      case round =>
        obtain ⟨y, hy, rfl, HT4, HK⟩ := hrel
        clear d0 d1 d2 g0 g1 g2 hl2
        by_cases hlt2 : y < m
        · have j1 := RR2.out y
          obtain ⟨p, hp⟩ := optV_form (replyB (stOf m S2 R2) lb (stOf n S R) la k y)
          rw [hp] at j1
          have HN := Lib.hid (fun h => goes_no2 (k := k) (a := stOf n S R) (la := la) (b := stOf m S2 R2) (lb := lb) (y := y) hlt2 h)
          obtain ⟨c, hc⟩ : ∃ c, (replyB (stOf m S2 R2) lb (stOf n S R) la k y).isSome = c := ⟨_, rfl⟩
          rw [hc] at j1 HN
          have HC := Lib.hid hc
          have J1 := Lib.hid j1
          clear j1 hc hp
          obtain ⟨c0, c1, c2, f0, f1, f2, hl1⟩ := HT4.out.a.cells
          obtain ⟨d0, d1, d2, g0, g1, g2, hl2⟩ := HT4.out.b.cells
          cases c
          · go_wp2_with fail
            refine (J1.out _ HT4.out.old hlt2).mono ?_; rintro e w1 ⟨rfl, hb⟩
            have HT3 := Lib.hid (HT4.out.below hb); clear hb
            go_wp2_with fail
            go_ret
            exact ⟨ret_bool (by rw [← HRES.out]; exact (HN.out (by simp)).symm), HT3.out.old⟩
          · go_wp2_with fail
            refine (J1.out _ HT4.out.old hlt2).mono ?_; rintro e w1 ⟨rfl, hb⟩
            have HT3 := Lib.hid (HT4.out.below hb); clear hb
            go_wp2_with fail
            go_roundw
            case rel =>
              refine ⟨y + 1, by omega, by go_num, HT3.out, fun z hz => ?_⟩
              by_cases hzy : z = y
              · rw [hzy]; exact HC.out
              · exact HK.out z (by omega)
            case measure => simp [intOf]; omega
        · have HE : Hid (Gs.goes (k + 1) (stOf n S R) la (stOf m S2 R2) lb = true) := goes_yes HK1.out fun z hz => HK.out z (by have hz : z < m := hz; omega)
          clear HK HK1
          go_wp2_with fail
          go_ret
          exact ⟨ret_bool (by rw [← HRES.out]; exact HE.out.symm), HT4.out.old⟩

theorem goesOn_any : ∀ k, k ≤ 8 → GoesOK k
  | 0, _ => goesOn_zero
  | k + 1, h => goesOn_succ k (by omega) (Lib.hid (replyTo_any k (by omega) (Lib.hid (goesOn_any k (by omega)))))

theorem secondWins_any (n : Nat) (S R : ByteArray) (m : Nat) (S2 R2 : ByteArray) (va vb : Value) (la lb : List Nat) (k : Nat) (w : World) (hp : Pos n S R m S2 R2 la lb k) (hva : NumsAt w va la) (hvb : NumsAt w vb lb) :
    Calls Tryd.prog 90 #[strV n S R, va, strV m S2 R2, vb, .int .i64 (k : Int)] w fun e w' => e = .returned (.bool (Gs.wins k (stOf n S R) la (stOf m S2 R2) lb)) ∧ Below w.heap.size w w' := by
  have HT := Lib.hid (Two.new w n S R m S2 R2)
  unfold boxS at HT
  have hSm := fun w' (h : Below w.heap.size w w') => sameWay_any n S R m S2 R2 va vb la lb w' hp.hS hp.hR hp.hn hp.hS2 hp.hR2 hp.hm (hva.below h) (hvb.below h) hp.hl (by have := hp.hl8; omega) hp.ha hp.hb
  have hGo := fun w' (h : Below w.heap.size w w') hs => goesOn_any k (by have := hp.hl8; omega) n S R m S2 R2 va vb la lb w' hp (hva.below h) (hvb.below h) hs
  have HW : Hid (Gs.wins k (stOf n S R) la (stOf m S2 R2) lb = (Gs.same (stOf n S R) la (stOf m S2 R2) lb && Gs.goes k (stOf n S R) la (stOf m S2 R2) lb)) := rfl
  unfold strV at hSm hGo
  obtain ⟨c, hc⟩ : ∃ c, Gs.same (stOf n S R) la (stOf m S2 R2) lb = c := ⟨_, rfl⟩
  obtain ⟨RES, hres⟩ : ∃ p, Gs.wins k (stOf n S R) la (stOf m S2 R2) lb = p := ⟨_, rfl⟩
  rw [hc] at hSm hGo HW
  rw [hres] at HW ⊢
  have HSM := Lib.hid hSm; have HGO := Lib.hid hGo
  clear hSm hGo hc hres hp hva hvb
  obtain ⟨c0, c1, c2, f0, f1, f2, hl1⟩ := HT.out.a.cells
  obtain ⟨d0, d1, d2, g0, g1, g2, hl2⟩ := HT.out.b.cells
  unfold strV
  cases c
  · go_enter Tryd.func90, Tryd.ntmps90
    go_wp2_with fail
    refine (HSM.out _ HT.out.old).mono ?_; rintro e w1 ⟨rfl, hb⟩
    have HT3 := Lib.hid (HT.out.below hb); clear hb
    go_wp2_with fail
    go_ret
    exact ⟨ret_bool (by rw [HW.out]; rfl), HT3.out.old⟩
  · generalize Gs.goes k (stOf n S R) la (stOf m S2 R2) lb = g at *
    go_enter Tryd.func90, Tryd.ntmps90
    go_wp2_with fail
    refine (HSM.out _ HT.out.old).mono ?_; rintro e w1 ⟨rfl, hb⟩
    have HT3 := Lib.hid (HT.out.below hb); clear hb
    clear c0 c1 c2 f0 f1 f2 hl1 d0 d1 d2 g0 g1 g2 hl2
    obtain ⟨c0, c1, c2, f0, f1, f2, hl1⟩ := HT3.out.a.cells
    obtain ⟨d0, d1, d2, g0, g1, g2, hl2⟩ := HT3.out.b.cells
    go_wp2_with fail
    refine (HGO.out _ HT3.out.old (by simp)).mono ?_; rintro e w2 ⟨rfl, hb⟩
    have HT4 := Lib.hid (HT3.out.below hb); clear hb
    go_wp2_with fail
    go_ret
    exact ⟨ret_bool (by rw [HW.out]; simp), HT4.out.old⟩
end Go.Proofs.YtagnikcnakdehaaDoor
