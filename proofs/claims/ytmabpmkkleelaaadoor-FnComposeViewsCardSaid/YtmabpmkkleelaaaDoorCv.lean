/- ComposeViews of the program and of the reference, and what is plainly known of composed views. Conditions: the texts' lengths fit an integer. -/
import Derived.Test.YtmabpmkkleelaaaDoorIV
namespace Go.Proofs.YtmabpmkkleelaaaDoor
open Go.RowKit
set_option linter.unusedVariables false
set_option maxRecDepth 100000

namespace Fm
theorem free_putV {ps pr : T} (h1 : Upto 1 ps) (h2 : Upto 2 pr) : ∀ (φ : T) {m : M} {ψ : T}, putV ps pr φ m = some ψ → ∀ w : Fin 4, (free ψ).testBit w.val = true → ∃ u : Fin 4, (free φ).testBit u.val = true ∧ m u = w
  | .lit b, m, ψ, h, w, hw => by simp [putV] at h; subst h; simp [free] at hw
  | .set v, m, ψ, h, w, hw => by
    simp only [putV] at h
    obtain ⟨u, hu, e⟩ := (free_put ps h w).1 hw
    have h0 : u = 0 := by have := h1 u hu; omega
    subst h0
    exact ⟨v, by rw [free_set]; simp, by simpa [fput] using e⟩
  | .rel false v x, m, ψ, h, w, hw => by
    simp [putV] at h; subst h
    rw [free_rel, Bool.or_eq_true, decide_eq_true_iff, decide_eq_true_iff] at hw
    rcases hw with e | e
    · exact ⟨v, by rw [free_rel]; simp, e⟩
    · exact ⟨x, by rw [free_rel]; simp, e⟩
  | .rel true v x, m, ψ, h, w, hw => by
    simp only [putV] at h
    obtain ⟨u, hu, e⟩ := (free_put pr h w).1 hw
    have h0 : u = 0 ∨ u = 1 := by have := h2 u hu; omega
    rcases h0 with rfl | rfl
    · exact ⟨v, by rw [free_rel]; simp, by simpa [fput] using e⟩
    · exact ⟨x, by rw [free_rel]; simp, by simpa [fput] using e⟩
  | .neg f, m, ψ, h, w, hw => by
    simp only [putV] at h
    obtain ⟨g, h3, rfl⟩ := Option.map_eq_some_iff.1 h
    exact free_putV h1 h2 f h3 w hw
  | .bin o f g, m, ψ, h, w, hw => by
    simp only [putV] at h
    obtain ⟨f', h3, h4⟩ := Option.bind_eq_some_iff.1 h
    obtain ⟨g', h5, rfl⟩ := Option.map_eq_some_iff.1 h4
    rw [free_bin, Bool.or_eq_true] at hw
    rcases hw with hw | hw
    · obtain ⟨u, hu, e⟩ := free_putV h1 h2 f h3 w hw
      exact ⟨u, by rw [free_bin, hu]; rfl, e⟩
    · obtain ⟨u, hu, e⟩ := free_putV h1 h2 g h5 w hw
      exact ⟨u, by rw [free_bin, hu]; simp, e⟩
  | .qu q v f, m, ψ, h, w, hw => by
    simp only [putV] at h
    obtain ⟨u, h3, h4⟩ := Option.bind_eq_some_iff.1 h
    obtain ⟨f', h5, rfl⟩ := Option.map_eq_some_iff.1 h4
    rw [free_qu, Bool.and_eq_true, decide_eq_true_iff] at hw
    obtain ⟨z, hz, e⟩ := free_putV h1 h2 f h5 w hw.1
    have hv : z ≠ v := by
      rintro rfl
      unfold fput at e
      rw [if_pos rfl] at e
      exact hw.2 e
    refine ⟨z, by rw [free_qu, hz]; simpa using fun e => hv e.symm, ?_⟩
    unfold fput at e
    rw [if_neg hv] at e
    exact e
end Fm
/-- A formula's text, if it is not too long. -/
def shT (r : Option Fm.T) : ByteArray × Bool := match r with
  | none => (⟨#[]⟩, false)
  | some ψ => if (Fm.text ψ).length ≤ 4000 then (txtS (Fm.text ψ), true) else (⟨#[]⟩, false)
theorem shT_V (r : Option Fm.T) : shortV r = .tuple #[.string (shT r).1, .bool (shT r).2] := by
  cases r with
  | none => rfl
  | some ψ =>
    unfold shortV shT
    by_cases h : (Fm.text ψ).length ≤ 4000
    · simp only [if_pos h]
    · simp only [if_neg h]
def badV : Value := .tuple #[.string ⟨#[]⟩, .string ⟨#[]⟩, .bool false]
/-- What ComposeViews returns. -/
def cvV (f g f2 g2 : ByteArray) : Value :=
  if (okV f2 2 && okV g2 4) && ((shT (pbRes f2 f g)).2 && (shT (pbRes g2 f g)).2) then .tuple #[.string (shT (pbRes f2 f g)).1, .string (shT (pbRes g2 f g)).1, .bool true] else badV
theorem cvV_bad {f g f2 g2 : ByteArray} (h : ((okV f2 2 && okV g2 4) && ((shT (pbRes f2 f g)).2 && (shT (pbRes g2 f g)).2)) = false) : cvV f g f2 g2 = badV := by unfold cvV; rw [h]; rfl
theorem ret_t3 {a b : Value} (h : a = b) : Ending.returned a = .returned b := by rw [h]
set_option maxHeartbeats 2000000 in
theorem specCompose_any (f g f2 g2 : ByteArray) (hf : f.size ≤ 100000) (hg : g.size ≤ 100000) (hf2 : f2.size ≤ 100000) (hg2 : g2.size ≤ 100000) (w : World) :
    Calls Tryd.prog 63 #[.string f, .string g, .string f2, .string g2] w fun e w' => e = .returned (cvV f g f2 g2) ∧ Below w.heap.size w w' := by
  have H1 := Lib.hid (fun w => l11View_1 f2 (by omega) w)
  have H2 := Lib.hid (fun w => l11View_2 g2 (by omega) w)
  have P1 := Lib.hid (fun w => specPullBack_any f2 f g (by omega) (by omega) (by omega) w)
  have P2 := Lib.hid (fun w => specPullBack_any g2 f g (by omega) (by omega) (by omega) w)
  rw [shT_V] at P1 P2
  have HV : Hid (cvV f g f2 g2 = if (okV f2 2 && okV g2 4) && ((shT (pbRes f2 f g)).2 && (shT (pbRes g2 f g)).2) then .tuple #[.string (shT (pbRes f2 f g)).1, .string (shT (pbRes g2 f g)).1, .bool true] else badV) := rfl
  generalize okV f2 2 = o1 at *
  generalize okV g2 4 = o2 at *
  generalize (shT (pbRes f2 f g)).2 = b1 at *
  generalize (shT (pbRes g2 f g)).2 = b2 at *
  generalize (shT (pbRes f2 f g)).1 = s1 at *
  generalize (shT (pbRes g2 f g)).1 = s2 at *
  generalize cvV f g f2 g2 = CV at *
  cases o1
  · have HE : Hid (CV = badV) := HV.out.trans rfl
    go_enter Tryd.func63, Tryd.ntmps63
    go_wp2_with fail
    refine (H1.out _).mono ?_; rintro _ wv ⟨rfl, hwv⟩; rw [hwv]; clear hwv wv
    go_wp2_with fail
    go_ret3
    exact ⟨ret_t3 HE.out.symm, Below.refl _ _⟩
  · cases o2
    · have HE : Hid (CV = badV) := HV.out.trans rfl
      go_enter Tryd.func63, Tryd.ntmps63
      go_wp2_with fail
      refine (H1.out _).mono ?_; rintro _ wv ⟨rfl, hwv⟩; rw [hwv]; clear hwv wv
      go_wp2_with fail
      refine (H2.out _).mono ?_; rintro _ wv ⟨rfl, hwv⟩; rw [hwv]; clear hwv wv
      go_wp2_with fail
      go_ret3
      exact ⟨ret_t3 HE.out.symm, Below.refl _ _⟩
    · cases b1
      · have HE : Hid (CV = badV) := HV.out.trans rfl
        go_enter Tryd.func63, Tryd.ntmps63
        go_wp2_with fail
        refine (H1.out _).mono ?_; rintro _ wv ⟨rfl, hwv⟩; rw [hwv]; clear hwv wv
        go_wp2_with fail
        refine (H2.out _).mono ?_; rintro _ wv ⟨rfl, hwv⟩; rw [hwv]; clear hwv wv
        go_wp2_with fail
        refine (P1.out _).mono ?_; rintro _ w1 ⟨rfl, hb⟩
        have HB1 := Lib.hid hb; clear hb
        go_wp2_with fail
        refine (P2.out _).mono ?_; rintro _ w2 ⟨rfl, hb⟩
        have HB2 := Lib.hid (HB1.out.trans (hb.mono HB1.out.size)); clear hb
        go_wp2_with fail
        go_ret3
        exact ⟨ret_t3 HE.out.symm, HB2.out⟩
      · cases b2
        · have HE : Hid (CV = badV) := HV.out.trans rfl
          go_enter Tryd.func63, Tryd.ntmps63
          go_wp2_with fail
          refine (H1.out _).mono ?_; rintro _ wv ⟨rfl, hwv⟩; rw [hwv]; clear hwv wv
          go_wp2_with fail
          refine (H2.out _).mono ?_; rintro _ wv ⟨rfl, hwv⟩; rw [hwv]; clear hwv wv
          go_wp2_with fail
          refine (P1.out _).mono ?_; rintro _ w1 ⟨rfl, hb⟩
          have HB1 := Lib.hid hb; clear hb
          go_wp2_with fail
          refine (P2.out _).mono ?_; rintro _ w2 ⟨rfl, hb⟩
          have HB2 := Lib.hid (HB1.out.trans (hb.mono HB1.out.size)); clear hb
          go_wp2_with fail
          go_ret3
          exact ⟨ret_t3 HE.out.symm, HB2.out⟩
        · have HE : Hid (CV = .tuple #[.string s1, .string s2, .bool true]) := HV.out.trans rfl
          go_enter Tryd.func63, Tryd.ntmps63
          go_wp2_with fail
          refine (H1.out _).mono ?_; rintro _ wv ⟨rfl, hwv⟩; rw [hwv]; clear hwv wv
          go_wp2_with fail
          refine (H2.out _).mono ?_; rintro _ wv ⟨rfl, hwv⟩; rw [hwv]; clear hwv wv
          go_wp2_with fail
          refine (P1.out _).mono ?_; rintro _ w1 ⟨rfl, hb⟩
          have HB1 := Lib.hid hb; clear hb
          go_wp2_with fail
          refine (P2.out _).mono ?_; rintro _ w2 ⟨rfl, hb⟩
          have HB2 := Lib.hid (HB1.out.trans (hb.mono HB1.out.size)); clear hb
          go_wp2_with fail
          go_ret3
          exact ⟨ret_t3 HE.out.symm, HB2.out⟩
theorem view_ok2 {f g : ByteArray} {φ ψ : Fm.T} (h : viewB f g = some (φ, ψ)) : okV f 2 = true ∧ okV g 4 = true := (pview_ok h).2.2
set_option maxHeartbeats 4000000 in
theorem implCompose_any (f g f2 g2 : ByteArray) (hf : f.size ≤ 100000) (hg : g.size ≤ 100000) (hf2 : f2.size ≤ 100000) (hg2 : g2.size ≤ 100000) (w : World) :
    Calls Tryd.prog 62 #[.string f, .string g, .string f2, .string g2] w fun e w' => e = .returned (cvV f g f2 g2) ∧ Below w.heap.size w w' := by
  have HV2 := Lib.hid (fun w => viewOf_any f2 g2 (by omega) (by omega) w)
  cases hv : viewB f g with
  | none =>
    have HE : Hid (cvV f g f2 g2 = badV) := cvV_bad (by rw [pb_none2 hv, pb_none2 hv]; simp [shT])
    have HV1 := Lib.hid (fun w => viewOf_any f g (by omega) (by omega) w)
    rw [hv] at HV1
    clear hv
    generalize cvV f g f2 g2 = CV at *
    go_enter Tryd.func62, Tryd.ntmps62
    go_wp2_with fail
    refine (HV1.out _).mono ?_; rintro en w1 ⟨hb1, hor⟩
    have HB1 := Lib.hid hb1; clear hb1
    rcases hor with ⟨_, rfl⟩ | ⟨φ, ψ, p, q, h, _⟩
    · go_wp2_with fail
      refine (HV2.out _).mono ?_; rintro en w2 ⟨hb2, hor⟩
      have HB2 := Lib.hid (HB1.out.trans (hb2.mono HB1.out.size)); clear hb2
      rcases hor with ⟨_, rfl⟩ | ⟨φ, ψ, p, q, h, rfl, _, _⟩
      · go_wp2_with fail
        go_ret3
        exact ⟨ret_t3 HE.out.symm, HB2.out⟩
      · unfold ptrV
        go_wp2_with fail
        go_ret3
        exact ⟨ret_t3 HE.out.symm, HB2.out⟩
    · cases h
  | some p0 =>
    obtain ⟨φ, ψ⟩ := p0
    obtain ⟨r1, r2, _, _⟩ := pview_ok hv
    have HV1 := Lib.hid (fun w => viewOf_any f g (by omega) (by omega) w)
    rw [hv] at HV1
    cases hv2 : viewB f2 g2 with
    | none =>
      have HE : Hid (cvV f g f2 g2 = badV) := cvV_bad (by rcases pview_no hv2 with h | h <;> simp [h])
      rw [hv2] at HV2
      clear hv hv2 r1 r2
      generalize cvV f g f2 g2 = CV at *
      go_enter Tryd.func62, Tryd.ntmps62
      go_wp2_with fail
      refine (HV1.out _).mono ?_; rintro en w1 ⟨hb1, hor⟩
      have HB1 := Lib.hid hb1; clear hb1
      rcases hor with ⟨h, _⟩ | ⟨φ', ψ', p, q, h, rfl, _, _⟩
      · cases h
      · clear h
        unfold ptrV
        go_wp2_with fail
        refine (HV2.out _).mono ?_; rintro en w2 ⟨hb2, hor⟩
        have HB2 := Lib.hid (HB1.out.trans (hb2.mono HB1.out.size)); clear hb2
        rcases hor with ⟨_, rfl⟩ | ⟨φ'', ψ'', p', q', h, _⟩
        · go_wp2_with fail
          go_ret3
          exact ⟨ret_t3 HE.out.symm, HB2.out⟩
        · cases h
    | some p1 =>
      obtain ⟨χ, κ⟩ := p1
      obtain ⟨r3, r4, o1, o2⟩ := pview_ok hv2
      rw [hv2] at HV2
      have HE : Hid (cvV f g f2 g2 = if (shT (Fm.putG (some (φ, ψ)) χ id)).2 && (shT (Fm.putG (some (φ, ψ)) κ id)).2 then .tuple #[.string (shT (Fm.putG (some (φ, ψ)) χ id)).1, .string (shT (Fm.putG (some (φ, ψ)) κ id)).1, .bool true] else badV) := by
        show _ = _
        unfold cvV
        rw [o1, o2, pb_some r3 hv, pb_some r4 hv]
        rfl
      have HC1 := Lib.hid (fun F w p a b ht ha hb => implpullBack_any χ φ ψ F w p a b (read_len r3).1 (read_len r1).1 (read_len r2).1 ht ha hb)
      have HC2 := Lib.hid (fun F w p a b ht ha hb => implpullBack_any κ φ ψ F w p a b (read_len r4).1 (read_len r1).1 (read_len r2).1 ht ha hb)
      rw [shT_V] at HC1 HC2
      clear hv hv2 r1 r2 r3 r4 o1 o2
      generalize cvV f g f2 g2 = CV at *
      go_enter Tryd.func62, Tryd.ntmps62
      go_wp2_with fail
      refine (HV1.out _).mono ?_; rintro en w1 ⟨hb1, hor⟩
      have HB1 := Lib.hid hb1; clear hb1
      rcases hor with ⟨h, _⟩ | ⟨φ', ψ', p, q, h, rfl, ht1, ht2⟩
      · cases h
      · injection h with h
        injection h with h h'
        subst h; subst h'
        have HT1 := Lib.hid ht1
        have HT2 := Lib.hid ht2
        clear ht1 ht2
        unfold ptrV
        go_wp2_with fail
        refine (HV2.out _).mono ?_; rintro en w2 ⟨hb2, hor⟩
        have HB2 := Lib.hid (HB1.out.trans (hb2.mono HB1.out.size))
        rcases hor with ⟨h, _⟩ | ⟨χ', κ', p', q', h, rfl, ht3, ht4⟩
        · cases h
        · injection h with h
          injection h with h h'
          subst h; subst h'
          have HQ1 := Lib.hid ((HT1.out.below hb2).mono (F' := fun _ => True) (fun _ _ => trivial))
          have HQ2 := Lib.hid ((HT2.out.below hb2).mono (F' := fun _ => True) (fun _ _ => trivial))
          have HQ3 := Lib.hid (ht3.mono (F' := fun _ => True) (fun _ _ => trivial))
          have HQ4 := Lib.hid (ht4.mono (F' := fun _ => True) (fun _ _ => trivial))
          clear hb2 ht3 ht4 HT1 HT2
          have D1 := Lib.hid (HC1.out _ _ _ _ _ HQ3.out HQ1.out HQ2.out)
          have D2 := Lib.hid (fun w3 (hb : Below w2.heap.size w2 w3) => HC2.out _ _ _ _ _ (HQ4.out.below hb) (HQ1.out.below hb) (HQ2.out.below hb))
          clear HC1 HC2 HQ1 HQ2 HQ3 HQ4
          generalize shT (Fm.putG (some (φ, ψ)) χ id) = u1 at *
          generalize shT (Fm.putG (some (φ, ψ)) κ id) = u2 at *
          obtain ⟨s1, b1⟩ := u1
          obtain ⟨s2, b2⟩ := u2
          unfold ptrV at D1 D2
          unfold ptrV
          go_wp2_with fail
          refine D1.out.mono ?_; rintro en w3 ⟨rfl, hb3⟩
          have HB3 := Lib.hid (HB2.out.trans (hb3.mono HB2.out.size))
          have D3 := Lib.hid (D2.out _ hb3)
          clear hb3
          go_wp2_with fail
          refine D3.out.mono ?_; rintro en w4 ⟨rfl, hb4⟩
          have HB4 := Lib.hid (HB3.out.trans (hb4.mono HB3.out.size))
          clear hb4
          cases b1 <;> cases b2
          all_goals
            go_wp2_with fail
            go_ret3
            exact ⟨ret_t3 HE.out.symm, HB4.out⟩
/-- What is known of composed views. -/
structure CvOk (f g f2 g2 s t : ByteArray) : Prop where
  turn : cvV f g f2 g2 = .tuple #[.string s, .string t, .bool true]
  size : s.size ≤ 4000 ∧ t.size ≤ 4000
  parts : ∃ φ ψ χ κ α β, viewB f g = some (φ, ψ) ∧ viewB f2 g2 = some (χ, κ) ∧ Fm.Upto 1 φ ∧ Fm.Upto 2 ψ ∧ Fm.putV φ ψ χ id = some α ∧ Fm.putV φ ψ κ id = some β ∧ viewB s t = some (α, β)
theorem upto_free1 {φ : Fm.T} (h : Fm.Upto 1 φ) : Fm.free φ / 2 = 0 := by
  have hl := Fm.free_lt φ
  have h1 := h 1
  have h2 := h 2
  have h3 := h 3
  generalize Fm.free φ = s at *
  have key : ∀ s : Fin 16, (s.val.testBit 1 = true → False) → (s.val.testBit 2 = true → False) → (s.val.testBit 3 = true → False) → s.val / 2 = 0 := by decide
  exact key ⟨s, hl⟩ (fun e => by have := h1 e; omega) (fun e => by have := h2 e; omega) (fun e => by have := h3 e; omega)
theorem upto_free2 {φ : Fm.T} (h : Fm.Upto 2 φ) : Fm.free φ / 4 = 0 := by
  have hl := Fm.free_lt φ
  have h2 := h 2
  have h3 := h 3
  generalize Fm.free φ = s at *
  have key : ∀ s : Fin 16, (s.val.testBit 2 = true → False) → (s.val.testBit 3 = true → False) → s.val / 4 = 0 := by decide
  exact key ⟨s, hl⟩ (fun e => by have := h2 e; omega) (fun e => by have := h3 e; omega)
theorem upto_putV {φ ψ χ α : Fm.T} {k : Nat} (h1 : Fm.Upto 1 φ) (h2 : Fm.Upto 2 ψ) (h3 : Fm.Upto k χ) (h : Fm.putV φ ψ χ id = some α) : Fm.Upto k α := fun w hw => by
  obtain ⟨u, hu, e⟩ := Fm.free_putV h1 h2 χ h w hw
  have e' : u = w := e
  rw [← e']
  exact h3 u hu
theorem cv_is (f g f2 g2 : ByteArray) : cvV f g f2 g2 = badV ∨ ∃ s t, CvOk f g f2 g2 s t := by
  by_cases hc : ((okV f2 2 && okV g2 4) && ((shT (pbRes f2 f g)).2 && (shT (pbRes g2 f g)).2)) = true
  · right
    have hcv : cvV f g f2 g2 = .tuple #[.string (shT (pbRes f2 f g)).1, .string (shT (pbRes g2 f g)).1, .bool true] := by unfold cvV; rw [hc]; rfl
    simp only [Bool.and_eq_true] at hc
    obtain ⟨⟨o1, o2⟩, b1, b2⟩ := hc
    have some_of : ∀ {r : Option Fm.T}, (shT r).2 = true → ∃ α, r = some α ∧ (Fm.text α).length ≤ 4000 ∧ (shT r).1 = txtS (Fm.text α) := by
      intro r h
      cases r with
      | none => cases h
      | some α =>
        unfold shT at h ⊢
        by_cases hl : (Fm.text α).length ≤ 4000
        · exact ⟨α, rfl, hl, by simp only [if_pos hl]⟩
        · simp only [if_neg hl] at h; cases h
    obtain ⟨α, e1, l1, s1⟩ := some_of b1
    obtain ⟨β, e2, l2, s2⟩ := some_of b2
    rw [s1, s2] at hcv
    cases hh : readB f2 with
    | none => rw [pb_none1 hh] at e1; cases e1
    | some χ =>
      cases hk : readB g2 with
      | none => rw [pb_none1 hk] at e2; cases e2
      | some κ =>
        cases hv : viewB f g with
        | none => rw [pb_none2 hv] at e1; cases e1
        | some p =>
          obtain ⟨φ, ψ⟩ := p
          obtain ⟨r1, r2, q1, q2⟩ := pview_ok hv
          rw [pb_some hh hv, Fm.putG_some] at e1
          rw [pb_some hk hv, Fm.putG_some] at e2
          have u1 := ok_upto1 r1 q1
          have u2 := ok_upto2 r2 q2
          have u3 := ok_upto1 hh o1
          have u4 := ok_upto2 hk o2
          have a1 := upto_putV u1 u2 u3 e1
          have a2 := upto_putV u1 u2 u4 e2
          refine ⟨_, _, hcv, ⟨by rw [txtS_size]; exact l1, by rw [txtS_size]; exact l2⟩, φ, ψ, χ, κ, α, β, hv, ?_, u1, u2, e1, e2, ?_⟩
          · rw [viewB_some hh hk, if_pos ⟨upto_free1 u3, upto_free2 u4⟩]
          · rw [viewB_some (readB_txt l1) (readB_txt l2), if_pos ⟨upto_free1 a1, upto_free2 a2⟩]
  · left
    exact cvV_bad (by simpa using hc)
theorem txt_read {f : ByteArray} {χ : Fm.T} (h : readB f = some χ) : txtS (Fm.text χ) = f := by
  have := (read_len h).2
  rw [← this]; unfold txtS; rfl
/-- The view of the atoms themselves changes nothing. -/
theorem cv_atoms {f g : ByteArray} {φ ψ : Fm.T} (h : viewB f g = some (φ, ψ)) : cvV ⟨#[80, 97]⟩ ⟨#[69, 97, 98]⟩ f g = .tuple #[.string f, .string g, .bool true] := by
  obtain ⟨r1, r2, o1, o2⟩ := pview_ok h
  have e1 : readB ⟨#[80, 97]⟩ = some (.set 0) := Fm.read_iff.2 ⟨rfl, by decide⟩
  have e2 : readB ⟨#[69, 97, 98]⟩ = some (.rel true 0 1) := Fm.read_iff.2 ⟨rfl, by decide⟩
  have e3 : viewB ⟨#[80, 97]⟩ ⟨#[69, 97, 98]⟩ = some (.set 0, .rel true 0 1) := by
    rw [viewB_some e1 e2, if_pos (by decide)]
  unfold cvV
  rw [o1, o2, pb_some r1 e3, pb_some r2 e3, Fm.putG_some, Fm.putG_some, Fm.putV_atoms, Fm.putV_atoms, Fm.put_id, Fm.put_id]
  have s1 : shT (some φ) = (f, true) := by unfold shT; simp only [if_pos (read_len r1).1]; rw [txt_read r1]
  have s2 : shT (some ψ) = (g, true) := by unfold shT; simp only [if_pos (read_len r2).1]; rw [txt_read r2]
  rw [s1, s2]
  rfl
/-- A structure that is defined in a defined one. -/
theorem iv_iv {n : Nat} {S R : ByteArray} (h1 : 1 ≤ n) {φ ψ χ κ α β : Fm.T} (u1 : Fm.Upto 1 φ) (u2 : Fm.Upto 2 ψ) (e1 : Fm.putV φ ψ χ id = some α) (e2 : Fm.putV φ ψ κ id = some β) :
    ivS n (ivS n S R φ) (ivR n S R ψ) χ = ivS n S R α ∧ ivR n (ivS n S R φ) (ivR n S R ψ) κ = ivR n S R β := by
  have lt : ∀ {x y : Nat}, x < n → y < n → ∀ v, env2 x y v < n := fun hx hy => env2_lt hx hy
  constructor
  · refine bitsOf_congr (fun x hx => ?_)
    have := iv_holds n S R φ ψ χ (env2 x 0) (lt hx (by omega))
    rw [Fm.holds_putV _ u1 u2 χ e1 (env2 x 0)]
    exact this
  · refine bitsOf_congr (fun k hk => ?_)
    have q1 : k / n < n := Nat.div_lt_of_lt_mul hk
    have q2 : k % n < n := Nat.mod_lt _ h1
    have := iv_holds n S R φ ψ κ (env2 (k / n) (k % n)) (lt q1 q2)
    show Fm.holds (stOf n (ivS n S R φ) (ivR n S R ψ)) κ (env2 (k / n) (k % n)) = Fm.holds (stOf n S R) β (env2 (k / n) (k % n))
    rw [Fm.holds_putV _ u1 u2 κ e2 (env2 (k / n) (k % n))]
    exact this
end Go.Proofs.YtmabpmkkleelaaaDoor
