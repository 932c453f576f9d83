/- Contracts of the program's functions and what they compute: part 38. Conditions: those that each theorem states. -/
import Derived.Test.YtihomcedaaiidaaGreatDoorP55n35
import Derived.Test.YtihomcedaaiidaaGreatDoorP55n36
import Derived.Test.YtihomcedaaiidaaGreatDoorP55n37
namespace Go.Proofs.YtihomcedaaiidaaGreatDoor
open Go.RowKit
set_option linter.unusedVariables false
set_option maxRecDepth 100000
def PushOK (φ : Fm.T) : Prop := ∀ (o : Bool) (F : Nat → Prop) (w : World) (p : Nat), Tree F w φ p → Calls Tryz.prog 29 #[ptrV p, .bool o] w fun e w' => e = .returned (.string (txtS (Fm.text (Fm.pushT o φ)))) ∧ Below w.heap.size w w'
theorem push_neg (f : Fm.T) (IH : PushOK f) : PushOK (.neg f) := by
  intro o F w p hT
  obtain ⟨v, u, q, nd, ht⟩ := hT
  obtain ⟨av, cv, ap, cp, rfl, rfl, hcp, c0, c1, c2, hpl, hcv, hpp⟩ := nd_facts nd 0 1 rfl rfl
  obtain ⟨g, rfl, hg, hgc⟩ := hpp (by decide)
  have d0 : w.cell? ⟨g, 0, none⟩ = some (ptrV q) := hgc 0 (by decide)
  replace c0 : w.cell? ⟨p, 0, none⟩ = some (.int .u8 33) := c0
  have HI := Lib.hid (IH (!o) F w q ht)
  change Hid (Calls _ _ _ w fun e w' => e = .returned (.string (txtS (Fm.text (Fm.pushT o (.neg f))))) ∧ Below w.heap.size w w') at HI
  clear hcv hpp nd ht hgc IH
  generalize txtS (Fm.text (Fm.pushT o (.neg f))) = E at *
  unfold ptrV at *
  go_enter Tryz.func29, Tryz.ntmps29
  go_wp2_with fail
  refine HI.out.mono ?_; rintro e w1 ⟨rfl, hb⟩
  have HB := Lib.hid hb
  clear hb
  go_wp2_with fail
  go_ret
  exact ⟨rfl, HB.out⟩
theorem push_any : ∀ φ : Fm.T, (Fm.text φ).length ≤ 4000 → PushOK φ
  | .lit b, h => fun o F w p ⟨v, u, nd⟩ => by
    cases b <;> cases o
    · exact push_102f nd (by simp) [] rfl (by simp) (fun t ht => by cases ht) (fun j hj => absurd hj (by simp))
    · exact push_102t nd (by simp) [] rfl (by simp) (fun t ht => by cases ht) (fun j hj => absurd hj (by simp))
    · exact push_116f nd (by simp) [] rfl (by simp) (fun t ht => by cases ht) (fun j hj => absurd hj (by simp))
    · exact push_116t nd (by simp) [] rfl (by simp) (fun t ht => by cases ht) (fun j hj => absurd hj (by simp))
  | .set x, h => fun o F w p ⟨v, u, nd⟩ => by
    have := push_80 nd (by simp) [] rfl (by simp) (fun t ht => by cases ht) (fun j hj => absurd hj (by simp)) o
    cases o <;> exact this
  | .rel e x y, h => fun o F w p ⟨v, u, nd⟩ => by
    cases e
    · have := push_61 nd (by simp) [] rfl (by simp) (fun t ht => by cases ht) (fun j hj => absurd hj (by simp)) o
      cases o <;> exact this
    · have := push_69 nd (by simp) [] rfl (by simp) (fun t ht => by cases ht) (fun j hj => absurd hj (by simp)) o
      cases o <;> exact this
  | .neg f, h => push_neg f (push_any f (by simp only [Fm.text, List.length_cons] at h; omega))
  | .bin d f g, h => fun o F w p ⟨v, u, q, r, nd, ht, ht2⟩ => by
    have h' : (Fm.text f).length + (Fm.text g).length + 1 ≤ 4000 := by
      have : (Fm.text (.bin d f g)).length = (Fm.text f).length + (Fm.text g).length + 1 := by simp [Fm.text]
      omega
    have hts : ∀ t ∈ [Fm.text (Fm.pushT o f), Fm.text (Fm.pushT o g)], t.length ≤ 200000 := fun t ht => by
      have h1 := Fm.len_push f o
      have h2 := Fm.len_push g o
      rcases List.mem_cons.1 ht with rfl | ht
      · omega
      · rw [List.mem_singleton.1 ht]; omega
    have I1 := push_any f (by omega)
    have I2 := push_any g (by omega)
    have IH : ∀ j, j < [q, r].length → ∀ w', Below w.heap.size w w' → Calls Tryz.prog 29 #[ptrV ([q, r].getD j 0), .bool o] w' fun e w2 => e = .returned (.string (txtS ([Fm.text (Fm.pushT o f), Fm.text (Fm.pushT o g)].getD j []))) ∧ Below w'.heap.size w' w2 := fun j hj w' hb => by
      rcases (show j = 0 ∨ j = 1 by simp at hj; omega) with rfl | rfl
      · exact I1 o F w' q (ht.below hb)
      · exact I2 o F w' r (ht2.below hb)
    have e : ∀ c : UInt8, c :: ([] : List (Fin 4)).map Fm.vb ++ [Fm.text (Fm.pushT o f), Fm.text (Fm.pushT o g)].flatten = c :: (Fm.text (Fm.pushT o f) ++ Fm.text (Fm.pushT o g)) := fun c => by simp
    cases d <;> cases o
    · have := push_38f nd (by simp) _ rfl (by simp) hts IH
      rw [e] at this; exact this
    · have := push_38t nd (by simp) _ rfl (by simp) hts IH
      rw [e] at this; exact this
    · have := push_124f nd (by simp) _ rfl (by simp) hts IH
      rw [e] at this; exact this
    · have := push_124t nd (by simp) _ rfl (by simp) hts IH
      rw [e] at this; exact this
  | .qu .all x f, h => fun o F w p ⟨v, u, q, nd, ht⟩ => by
    have h' : (Fm.text f).length ≤ 4000 := by simp only [Fm.text, List.length_cons] at h; omega
    have hts : ∀ t ∈ [Fm.text (Fm.pushT o f)], t.length ≤ 200000 := fun t ht => by
      have h1 := Fm.len_push f o
      rw [List.mem_singleton.1 ht]; omega
    have I1 := push_any f h'
    have IH : ∀ j, j < [q].length → ∀ w', Below w.heap.size w w' → Calls Tryz.prog 29 #[ptrV ([q].getD j 0), .bool o] w' fun e w2 => e = .returned (.string (txtS ([Fm.text (Fm.pushT o f)].getD j []))) ∧ Below w'.heap.size w' w2 := fun j hj w' hb => by
      obtain rfl : j = 0 := by simp at hj; omega
      exact I1 o F w' q (ht.below hb)
    have e : ∀ c : UInt8, c :: [x].map Fm.vb ++ [Fm.text (Fm.pushT o f)].flatten = c :: Fm.vb x :: Fm.text (Fm.pushT o f) := fun c => by simp
    cases o
    · have := push_65f nd (by simp) _ rfl (by simp) hts IH
      rw [e] at this; exact this
    · have := push_65t nd (by simp) _ rfl (by simp) hts IH
      rw [e] at this; exact this
  | .qu .some x f, h => fun o F w p ⟨v, u, q, nd, ht⟩ => by
    have h' : (Fm.text f).length ≤ 4000 := by simp only [Fm.text, List.length_cons] at h; omega
    have hts : ∀ t ∈ [Fm.text (Fm.pushT o f)], t.length ≤ 200000 := fun t ht => by
      have h1 := Fm.len_push f o
      rw [List.mem_singleton.1 ht]; omega
    have I1 := push_any f h'
    have IH : ∀ j, j < [q].length → ∀ w', Below w.heap.size w w' → Calls Tryz.prog 29 #[ptrV ([q].getD j 0), .bool o] w' fun e w2 => e = .returned (.string (txtS ([Fm.text (Fm.pushT o f)].getD j []))) ∧ Below w'.heap.size w' w2 := fun j hj w' hb => by
      obtain rfl : j = 0 := by simp at hj; omega
      exact I1 o F w' q (ht.below hb)
    have e : ∀ c : UInt8, c :: [x].map Fm.vb ++ [Fm.text (Fm.pushT o f)].flatten = c :: Fm.vb x :: Fm.text (Fm.pushT o f) := fun c => by simp
    cases o
    · have := push_83f nd (by simp) _ rfl (by simp) hts IH
      rw [e] at this; exact this
    · have := push_83t nd (by simp) _ rfl (by simp) hts IH
      rw [e] at this; exact this
  | .qu .two x f, h => fun o F w p ⟨v, u, q, nd, ht⟩ => by
    have h' : (Fm.text f).length ≤ 4000 := by simp only [Fm.text, List.length_cons] at h; omega
    have hts : ∀ t ∈ [Fm.text (Fm.pushT false f)], t.length ≤ 200000 := fun t ht => by
      have h1 := Fm.len_push f false
      rw [List.mem_singleton.1 ht]; omega
    have I1 := push_any f h'
    have IH : ∀ j, j < [q].length → ∀ w', Below w.heap.size w w' → Calls Tryz.prog 29 #[ptrV ([q].getD j 0), .bool false] w' fun e w2 => e = .returned (.string (txtS ([Fm.text (Fm.pushT false f)].getD j []))) ∧ Below w'.heap.size w' w2 := fun j hj w' hb => by
      obtain rfl : j = 0 := by simp at hj; omega
      exact I1 false F w' q (ht.below hb)
    have this := push_50 nd (by simp) _ rfl (by simp) hts IH o
    have e : ∀ c : List UInt8, c ++ (50 :: [x].map Fm.vb ++ [Fm.text (Fm.pushT false f)].flatten) = c ++ (50 :: Fm.vb x :: Fm.text (Fm.pushT false f)) := fun c => by simp
    rw [e] at this
    cases o <;> exact this
  | .qu .three x f, h => fun o F w p ⟨v, u, q, nd, ht⟩ => by
    have h' : (Fm.text f).length ≤ 4000 := by simp only [Fm.text, List.length_cons] at h; omega
    have hts : ∀ t ∈ [Fm.text (Fm.pushT false f)], t.length ≤ 200000 := fun t ht => by
      have h1 := Fm.len_push f false
      rw [List.mem_singleton.1 ht]; omega
    have I1 := push_any f h'
    have IH : ∀ j, j < [q].length → ∀ w', Below w.heap.size w w' → Calls Tryz.prog 29 #[ptrV ([q].getD j 0), .bool false] w' fun e w2 => e = .returned (.string (txtS ([Fm.text (Fm.pushT false f)].getD j []))) ∧ Below w'.heap.size w' w2 := fun j hj w' hb => by
      obtain rfl : j = 0 := by simp at hj; omega
      exact I1 false F w' q (ht.below hb)
    have this := push_51 nd (by simp) _ rfl (by simp) hts IH o
    have e : ∀ c : List UInt8, c ++ (51 :: [x].map Fm.vb ++ [Fm.text (Fm.pushT false f)].flatten) = c ++ (51 :: Fm.vb x :: Fm.text (Fm.pushT false f)) := fun c => by simp
    rw [e] at this
    cases o <;> exact this
  | .qu .four x f, h => fun o F w p ⟨v, u, q, nd, ht⟩ => by
    have h' : (Fm.text f).length ≤ 4000 := by simp only [Fm.text, List.length_cons] at h; omega
    have hts : ∀ t ∈ [Fm.text (Fm.pushT false f)], t.length ≤ 200000 := fun t ht => by
      have h1 := Fm.len_push f false
      rw [List.mem_singleton.1 ht]; omega
    have I1 := push_any f h'
    have IH : ∀ j, j < [q].length → ∀ w', Below w.heap.size w w' → Calls Tryz.prog 29 #[ptrV ([q].getD j 0), .bool false] w' fun e w2 => e = .returned (.string (txtS ([Fm.text (Fm.pushT false f)].getD j []))) ∧ Below w'.heap.size w' w2 := fun j hj w' hb => by
      obtain rfl : j = 0 := by simp at hj; omega
      exact I1 false F w' q (ht.below hb)
    have this := push_52 nd (by simp) _ rfl (by simp) hts IH o
    have e : ∀ c : List UInt8, c ++ (52 :: [x].map Fm.vb ++ [Fm.text (Fm.pushT false f)].flatten) = c ++ (52 :: Fm.vb x :: Fm.text (Fm.pushT false f)) := fun c => by simp
    rw [e] at this
    cases o <;> exact this
/-- What PushNot returns. -/
def pushB (φ : Fm.T) : ByteArray := txtS (Fm.text (Fm.pushT false φ))
theorem PushNot_any (f : ByteArray) (φ : Fm.T) (hr : readB f = some φ) (hf : f.size ≤ 2000) (w : World) : Calls Tryz.prog 7 #[.string f] w fun e w' => e = .returned (.tuple #[.string (pushB φ), .bool true]) ∧ Below w.heap.size w w' := by
  have h2 := (Fm.read_iff (s := f.data.toList)).1 hr
  have hlen : (Fm.text φ).length ≤ 2000 := by
    rw [← h2.1]
    simpa using hf
  have hpz : (pushB φ).size ≤ 4000 := by
    unfold pushB
    rw [txtS_size]
    have := Fm.len_push φ false
    omega
  have HS := Lib.hid (push_any φ (by omega))
  have HPF := Lib.hid (fun w => parseFormula_any f w (by omega))
  have HSF := Lib.hid (fun w => short_yes (pushB φ) hpz w)
  generalize hE : pushB φ = E at *
  go_enter Tryz.func7, Tryz.ntmps7
  go_wp2_with fail
  refine (HPF.out _).mono ?_; rintro e w2 ⟨hb, ⟨h, _⟩ | ⟨φ', p, h, rfl, ht⟩⟩
  · rw [hr] at h; cases h
  · rw [hr] at h
    injection h with h
    subst h
    have HB := Lib.hid hb
    have HC : Hid (Calls Tryz.prog 29 #[ptrV p, .bool false] w2 fun e w' => e = .returned (.string E) ∧ Below w2.heap.size w2 w') := by rw [← hE]; exact HS.out false _ _ _ ht
    clear hb ht hr HPF HS hlen h2 hE
    unfold ptrV at *
    go_wp2_with fail
    refine HC.out.mono ?_; rintro e w3 ⟨rfl, hb⟩
    have HB3 := Lib.hid (HB.out.trans (hb.mono HB.out.size))
    clear hb
    go_wp2_with fail
    refine (HSF.out _).mono ?_; rintro e w4 ⟨rfl, hb⟩
    have HB4 := Lib.hid (HB3.out.trans (hb.mono HB3.out.size))
    clear hb
    go_wp2_with fail
    go_ret2
    exact ⟨rfl, HB4.out⟩
end Go.Proofs.YtihomcedaaiidaaGreatDoor
