/- WordClasses of the program and of the reference, and the walk of the law FnExactWordClasses. Conditions: none. -/
import Derived.Test.YtkopkdpfdkcckaaClassS4
import Derived.Test.YtkopkdpfdkcckaaMarks
namespace Go.Proofs.Ytkopkdpfdkcckaa
open Go.RowKit
set_option linter.unusedVariables false

/-- A slice of texts that is nil, or the call's own. -/
def OwnT (B : Nat) (w : World) (v : Value) (L : List ByteArray) : Prop := (v = .slice none 0 0 ∧ L = []) ∨ OwnS B w v L
theorem OwnT.texts {B : Nat} {w : World} {v : Value} {L : List ByteArray} (h : OwnT B w v L) : TextsAt w v L := by
  rcases h with ⟨rfl, rfl⟩ | h
  · exact TextsAt.nil w
  · exact h.texts
theorem OwnT.below {B : Nat} {w w' : World} {v : Value} {L : List ByteArray} (h : OwnT B w v L) (hb : Below w.heap.size w w') : OwnT B w' v L := by
  rcases h with h | h
  · exact .inl h
  · exact .inr (h.below hb)
/-- What a function leaves that returns a list of texts of its own, or nil. -/
def NewT (w : World) (L : List ByteArray) (e : Ending) (w' : World) : Prop := ∃ v, e = .returned v ∧ OwnT w.heap.size w' v L ∧ Below w.heap.size w w'

theorem markT_any (v : Value) (L : List ByteArray) (k B : Nat) (w : World) (h : OwnT B w v L) (hk : 1 ≤ k) (hl : k + L.length ≤ 1000000) (hB : B ≤ w.heap.size) :
    Calls Try.prog 9 #[v, .int .i64 (k : Int)] w fun e w' => e = .returned (.int .i64 ((k + L.length : Nat) : Int)) ∧ Below B w w' ∧ ∃ M : List ByteArray, M.length = L.length ∧ OwnT B w' v M ∧ ∀ i, i < L.length → M.getD i ByteArray.empty = markS (k + i) := by
  rcases h with ⟨rfl, rfl⟩ | h
  · have hkI : (k : Int) ≤ 1000000 := by simp at hl; omega
    go_enter Try.func9, Try.ntmps9
    go_wp2_with fail
    go_loop [5, 1] (fun i q => i = .int .i64 0 ∧ q = .int .i64 (k : Int)) (fun _ _ => 0)
    case atStart => exact ⟨rfl, rfl⟩
    case round =>
      obtain ⟨rfl, rfl⟩ := hrel
      go_wp2_with fail
      go_ret
      exact ⟨rfl, Below.refl _ _, .inl ⟨rfl, rfl⟩⟩
  · refine (markStringS_any v L k B w h hk hl).mono ?_
    rintro e w' ⟨h1, h2, M, h3, h4, h5⟩
    exact ⟨h1, h2, M, h3, .inr h4, h5⟩

/-- What WordClasses returns. -/
def clsRes (n K : Int) : List ByteArray := if inB n 0 5 && inB K 0 2 then clsL K.toNat (upTo n.toNat) else []
theorem clsRes_length (n K : Int) : (clsRes n K).length ≤ 62 := by
  unfold clsRes
  split
  · rename_i h
    simp only [Bool.and_eq_true, inB_iff] at h
    have h1 := clsL_length K.toNat _ (upTo n.toNat) rfl
    have h2 := upTo_length n.toNat
    have h3 : 2 ^ (n.toNat + 1) ≤ 2 ^ 6 := Nat.pow_le_pow_right (by decide) (by omega)
    omega
  · simp
theorem implClasses_any (n K : Int) (w : World) : Calls Try.prog 7 #[.int .i64 n, .int .i64 K] w (NewT w (clsRes n K)) := by
  by_cases h : inB n 0 5 = true ∧ inB K 0 2 = true
  · obtain ⟨h1, h2⟩ := h
    have e : clsRes n K = clsL K.toNat (upTo n.toNat) := by unfold clsRes; rw [h1, h2]; rfl
    rw [e]
    have h3 := inB_iff.1 h1
    have h4 := inB_iff.1 h2
    obtain ⟨m, rfl⟩ := Int.eq_ofNat_of_zero_le h3.1
    obtain ⟨k, rfl⟩ := Int.eq_ofNat_of_zero_le h4.1
    refine (implClasses_yes m k w (by omega) (by omega)).mono ?_
    rintro e w' ⟨v, he, hv, hb⟩
    exact ⟨v, he, .inr (by simpa using hv), hb⟩
  · have e : clsRes n K = [] := by unfold clsRes; rw [if_neg]; simpa using h
    rw [e]
    rw [inB_iff, inB_iff] at h
    have HP : Hid (NewT w [] (.returned (.slice none 0 0)) w) := ⟨_, rfl, .inl ⟨rfl, rfl⟩, Below.refl _ _⟩
    by_cases h1 : n < 0
    · go_enter Try.func7, Try.ntmps7
      go_wp2_with fail
      go_ret
      exact HP.out
    · by_cases h2 : 5 < n
      · go_enter Try.func7, Try.ntmps7
        go_wp2_with fail
        go_ret
        exact HP.out
      · by_cases h3 : K < 0
        · go_enter Try.func7, Try.ntmps7
          go_wp2_with fail
          go_ret
          exact HP.out
        · have h4 : 2 < K := by omega
          go_enter Try.func7, Try.ntmps7
          go_wp2_with fail
          go_ret
          exact HP.out
set_option maxHeartbeats 1000000 in
theorem specClasses_any (n K : Int) (w : World) : Calls Try.prog 6 #[.int .i64 n, .int .i64 K] w (NewT w (clsRes n K)) := by
  cases h1 : inB n 0 5
  · have HK := Lib.hid (fun w => l1In_any n 0 5 w)
    rw [h1] at HK
    have HE : Hid (NewT w [] (.returned (.slice (some ⟨w.heap.size, 0, none⟩) 0 0)) (w.alloc (.cells #[] 9))) := ⟨_, rfl, .inr (OwnS.lit0 _ w (Nat.le_refl _)), (Below.refl _ _).alloc (Nat.le_refl _) _⟩
    have e : clsRes n K = [] := by unfold clsRes; rw [h1]; rfl
    rw [e]
    clear h1
    go_enter Try.func6, Try.ntmps6
    go_wp2_with fail
    refine (HK.out _).mono ?_; rintro e w' ⟨rfl, rfl⟩
    go_wp2_with fail
    go_ret
    exact HE.out
  · cases h2 : inB K 0 2
    · have HK := Lib.hid (fun w => l1In_any n 0 5 w)
      have HK2 := Lib.hid (fun w => l1In_any K 0 2 w)
      rw [h1] at HK
      rw [h2] at HK2
      have HE : Hid (NewT w [] (.returned (.slice (some ⟨w.heap.size, 0, none⟩) 0 0)) (w.alloc (.cells #[] 9))) := ⟨_, rfl, .inr (OwnS.lit0 _ w (Nat.le_refl _)), (Below.refl _ _).alloc (Nat.le_refl _) _⟩
      have e : clsRes n K = [] := by unfold clsRes; rw [h1, h2]; rfl
      rw [e]
      clear h1 h2
      go_enter Try.func6, Try.ntmps6
      go_wp2_with fail
      refine (HK.out _).mono ?_; rintro e w' ⟨rfl, rfl⟩
      go_wp2_with fail
      refine (HK2.out _).mono ?_; rintro e w' ⟨rfl, rfl⟩
      go_wp2_with fail
      go_ret
      exact HE.out
    · have HK := Lib.hid (fun w => l1In_any n 0 5 w)
      have HK2 := Lib.hid (fun w => l1In_any K 0 2 w)
      rw [h1] at HK
      rw [h2] at HK2
      have e : clsRes n K = clsL K.toNat (upTo n.toNat) := by unfold clsRes; rw [h1, h2]; rfl
      rw [e]
      have h3 := inB_iff.1 h1
      have h4 := inB_iff.1 h2
      obtain ⟨m, rfl⟩ := Int.eq_ofNat_of_zero_le h3.1
      obtain ⟨k, rfl⟩ := Int.eq_ofNat_of_zero_le h4.1
      rw [Int.toNat_natCast, Int.toNat_natCast]
      have hm : m ≤ 8 := by omega
      have hk : k ≤ 2 := by omega
      clear h1 h2 h3 h4 e
      go_enter Try.func6, Try.ntmps6
      go_wp2_with fail
      refine (HK.out _).mono ?_; rintro e w' ⟨rfl, rfl⟩
      go_wp2_with fail
      refine (HK2.out _).mono ?_; rintro e w' ⟨rfl, rfl⟩
      go_wp2_with fail
      refine (l5New_any _).mono ?_; rintro e w1 ⟨gL, gC, F0, vs0, rfl, ht, hb, hF⟩
      have HTB := Lib.hid ht
      have HFF := Lib.hid hF
      have HB1 := Lib.hid hb
      clear ht hb hF
      go_wp2_with fail
      refine (l12Classes_any m k gL gC F0 vs0 [] w1 hm hk HTB.out (by simp)).mono ?_; rintro e w2 ⟨v, u, T, F, vs, E, rfl, hc⟩
      have HP : Hid (NewT w (clsL k (upTo m)) (.returned v) w2) := by
        refine ⟨v, rfl, .inr ⟨⟨hc.mem.words.own.1, ?_⟩, hc.mem.words.ne, ?_⟩, ?_⟩
        · rcases hc.mem.words.own.2 with h1 | ⟨g, cap, cur, h1, h2, h3⟩
          · exact .inl h1
          · exact .inr ⟨g, cap, cur, h1, Nat.le_trans HB1.out.size h2, h3⟩
        · exact Nat.le_trans HB1.out.size hc.mem.words.low
        · exact HB1.out.trans (hc.mem.old.below HB1.out.size HFF.out)
      clear hc
      go_wp2_with fail
      go_ret
      exact HP.out

set_option maxHeartbeats 1000000 in
theorem fnExactWordClasses_walk (a0 a1 : Int) (w : World) (_w0 : (Lit.int .i64 a0).wf = true) (_w1 : (Lit.int .i64 a1).wf = true) :
    Calls Try.prog 3 #[.int .i64 a0, .int .i64 a1] w fun e w' => e = .returned (.bool true) ∧ Below w.heap.size w w' := by
  have H1 := Lib.hid (fun w => specClasses_any a0 a1 w)
  have H2 := Lib.hid (fun w => implClasses_any a0 a1 w)
  have hl := clsRes_length a0 a1
  generalize clsRes a0 a1 = L at *
  go_enter Try.func3, Try.ntmps3
  go_wp2_with fail
  refine (H1.out _).mono ?_; rintro e w1 ⟨v0, rfl, h0, hb⟩
  have HV := Lib.hid h0.texts
  have HB1 := Lib.hid hb; clear hb h0
  go_wp2_with fail
  refine (H2.out _).mono ?_; rintro e w2 ⟨g0, rfl, hg, hb⟩
  have HG := Lib.hid hg
  have HB2 := Lib.hid hb; clear hb hg
  go_wp2_with fail
  refine (eqStringS_same g0 v0 L _ HG.out.texts (HV.out.below HB2.out) (by omega)).mono ?_; rintro e w3 ⟨rfl, hb⟩
  have HB3 := Lib.hid (HB2.out.trans (hb.mono HB2.out.size))
  have HG3 := Lib.hid (HG.out.below hb)
  clear hb
  go_wp2_with fail
  refine (markT_any g0 L 1 w1.heap.size _ HG3.out (by omega) (by omega) HB3.out.size).mono ?_; rintro e w4 ⟨rfl, hb, M, hM, ho, hk⟩
  have HB4 := Lib.hid (HB3.out.trans hb)
  have HG4 := Lib.hid ho
  have HMK := Lib.hid hk
  clear hb ho hk
  have e1 : ((1 + L.length : Nat) : Int) = 1 + (L.length : Int) := by omega
  go_wp2_with fail
  refine (heldStringS_any g0 M 1 _ HG4.out.texts (fun j hj => HMK.out j (by omega)) (by omega) (by omega)).mono ?_; rintro e w5 ⟨rfl, hb⟩
  have HB5 := Lib.hid (HB4.out.trans (hb.mono HB4.out.size))
  have HG5 := Lib.hid (HG4.out.below hb)
  clear hb
  rw [hM]
  have e2 : ((1 : Int) + (L.length : Int) < 0) = False := by simp; omega
  go_wp2_with fail
  refine (H2.out _).mono ?_; rintro e w6 ⟨h0, rfl, hg, hb⟩
  have HH := Lib.hid hg
  have HB6 := Lib.hid (HB5.out.trans (hb.mono HB5.out.size))
  have HG6 := Lib.hid (HG5.out.below hb)
  clear hb hg
  go_wp2_with fail
  refine (eqStringS_same h0 v0 L _ HH.out.texts (HV.out.below HB6.out) (by omega)).mono ?_; rintro e w7 ⟨rfl, hb⟩
  have HB7 := Lib.hid (HB6.out.trans (hb.mono HB6.out.size))
  have HG7 := Lib.hid (HG6.out.below hb)
  clear hb
  go_wp2_with fail
  refine (heldStringS_any g0 M 1 _ HG7.out.texts (fun j hj => HMK.out j (by omega)) (by omega) (by omega)).mono ?_; rintro e w8 ⟨rfl, hb⟩
  have HB8 := Lib.hid (HB1.out.trans ((HB7.out.trans (hb.mono HB7.out.size)).mono HB1.out.size))
  clear hb
  rw [hM]
  go_wp2_with fail
  go_ret
  exact ⟨rfl, HB8.out⟩
end Go.Proofs.Ytkopkdpfdkcckaa
