/- Contracts of the program's functions and what they compute: part 18. Conditions: those that each theorem states. -/
import Derived.Test.YtofmagiahmmmgaaGreatDoorP53n5
import Derived.Test.YtofmagiahmmmgaaGreatDoorP53n9
namespace Go.Proofs.YtofmagiahmmmgaaGreatDoor
namespace Col
set_option linter.unusedVariables false
/-- The order of two lists, as a number. -/
def cmp : List Nat → List Nat → Int
  | [], [] => 0
  | [], _ :: _ => -1
  | _ :: _, [] => 1
  | x :: l, y :: m => if x < y then -1 else if y < x then 1 else cmp l m
theorem cmp_self : ∀ l, cmp l l = 0
  | [] => rfl
  | x :: l => by simp [cmp, cmp_self l]
theorem cmp_eq : ∀ {l m : List Nat}, cmp l m = 0 → l = m
  | [], [], _ => rfl
  | [], _ :: _, h => by simp [cmp] at h
  | _ :: _, [], h => by simp [cmp] at h
  | x :: l, y :: m, h => by
    unfold cmp at h
    split at h
    · cases h
    · split at h
      · cases h
      · have : x = y := by omega
        rw [this, cmp_eq h]
theorem cmp_anti : ∀ l m : List Nat, cmp m l = - cmp l m
  | [], [] => rfl
  | [], _ :: _ => rfl
  | _ :: _, [] => rfl
  | x :: l, y :: m => by
    unfold cmp
    by_cases h1 : x < y
    · have h2 : ¬ y < x := by omega
      simp [h1, h2]
    · by_cases h2 : y < x
      · simp [h1, h2]
      · simp [h1, h2, cmp_anti l m]
theorem cmp_range : ∀ l m : List Nat, cmp l m = -1 ∨ cmp l m = 0 ∨ cmp l m = 1
  | [], [] => .inr (.inl rfl)
  | [], _ :: _ => .inl rfl
  | _ :: _, [] => .inr (.inr rfl)
  | x :: l, y :: m => by
    unfold cmp
    split
    · exact .inl rfl
    · split
      · exact .inr (.inr rfl)
      · exact cmp_range l m
theorem cmp_trans : ∀ {l m k : List Nat}, cmp l m < 0 → cmp m k < 0 → cmp l k < 0
  | [], [], _, h, _ => by simp [cmp] at h
  | [], _ :: _, [], _, h => by simp [cmp] at h
  | [], _ :: _, _ :: _, _, _ => by simp [cmp]
  | _ :: _, [], _, h, _ => by simp [cmp] at h
  | _ :: _, _ :: _, [], _, h => by simp [cmp] at h
  | x :: l, y :: m, z :: k, h1, h2 => by
    unfold cmp at h1 h2 ⊢
    by_cases a1 : x < y
    · by_cases b1 : y < z
      · simp [show x < z by omega]
      · by_cases b2 : z < y
        · simp [b1, b2] at h2
        · simp [show x < z by omega]
    · by_cases a2 : y < x
      · simp [a1, a2] at h1
      · by_cases b1 : y < z
        · simp [show x < z by omega]
        · by_cases b2 : z < y
          · simp [b1, b2] at h2
          · simp only [a1, a2, b1, b2, if_false] at h1 h2
            simp only [show ¬ x < z by omega, show ¬ z < x by omega, if_false]
            exact cmp_trans h1 h2
theorem cmp_ntrans {l m k : List Nat} (h1 : ¬ cmp l m < 0) (h2 : ¬ cmp m k < 0) : ¬ cmp l k < 0 := by
  intro h
  have a1 := cmp_anti l m
  have a2 := cmp_anti m k
  have a3 := cmp_anti l k
  by_cases e1 : cmp l m = 0
  · rw [cmp_eq e1] at h; exact h2 h
  · by_cases e2 : cmp m k = 0
    · rw [← cmp_eq e2] at h; exact h1 h
    · have b1 : cmp m l < 0 := by omega
      have b2 : cmp k m < 0 := by omega
      have b3 := cmp_trans b2 b1
      omega
/-- A list put into a list in order, once. -/
def ins (d : List Nat) : List (List Nat) → List (List Nat)
  | [] => [d]
  | e :: l => if cmp d e < 0 then d :: e :: l else if cmp d e = 0 then e :: l else e :: ins d l
/-- The lists in order, each once. -/
def srt : List (List Nat) → List (List Nat)
  | [] => []
  | d :: l => ins d (srt l)
def Strict (l : List (List Nat)) : Prop := l.Pairwise fun x y => cmp x y < 0
theorem mem_ins {d x : List Nat} : ∀ {l : List (List Nat)}, x ∈ ins d l ↔ x = d ∨ x ∈ l
  | [] => by simp [ins]
  | e :: l => by
    unfold ins
    split
    · simp
    · split
      · rename_i h1 h2
        have := cmp_eq h2
        subst this
        simp
      · simp only [List.mem_cons, mem_ins (l := l)]
        constructor
        · rintro (h | h | h) <;> simp [h]
        · rintro (h | h | h) <;> simp [h]
theorem mem_srt {x : List Nat} : ∀ {l : List (List Nat)}, x ∈ srt l ↔ x ∈ l
  | [] => by simp [srt]
  | d :: l => by unfold srt; rw [mem_ins, mem_srt (l := l), List.mem_cons]
theorem strict_ins {d : List Nat} : ∀ {l : List (List Nat)}, Strict l → Strict (ins d l)
  | [], _ => by simp [ins, Strict]
  | e :: l, h => by
    have h1 := List.pairwise_cons.1 h
    unfold ins
    split
    · rename_i hlt
      refine List.pairwise_cons.2 ⟨fun y hy => ?_, h⟩
      rcases List.mem_cons.1 hy with rfl | hy
      · exact hlt
      · exact cmp_trans hlt (h1.1 y hy)
    · split
      · exact h
      · rename_i h2 h3
        refine List.pairwise_cons.2 ⟨fun y hy => ?_, strict_ins h1.2⟩
        rcases mem_ins.1 hy with rfl | hy
        · have := cmp_anti y e
          omega
        · exact h1.1 y hy
theorem strict_srt : ∀ l : List (List Nat), Strict (srt l)
  | [] => List.Pairwise.nil
  | d :: l => strict_ins (strict_srt l)
theorem strict_same : ∀ {l m : List (List Nat)}, Strict l → Strict m → (∀ x, x ∈ l ↔ x ∈ m) → l = m
  | [], [], _, _, _ => rfl
  | [], y :: m, _, _, h => absurd ((h y).2 List.mem_cons_self) (by simp)
  | x :: l, [], _, _, h => absurd ((h x).1 List.mem_cons_self) (by simp)
  | x :: l, y :: m, h1, h2, h => by
    have a := List.pairwise_cons.1 h1
    have b := List.pairwise_cons.1 h2
    have e : x = y := by
      rcases List.mem_cons.1 ((h x).1 List.mem_cons_self) with e | hx
      · exact e
      · rcases List.mem_cons.1 ((h y).2 List.mem_cons_self) with e | hy
        · exact e.symm
        · have := cmp_trans (b.1 x hx) (a.1 y hy)
          rw [cmp_self] at this
          omega
    subst e
    congr 1
    refine strict_same a.2 b.2 fun z => ?_
    constructor
    · intro hz
      rcases List.mem_cons.1 ((h z).1 (List.mem_cons_of_mem _ hz)) with e | hz'
      · subst e
        have := a.1 z hz
        rw [cmp_self] at this
        omega
      · exact hz'
    · intro hz
      rcases List.mem_cons.1 ((h z).2 (List.mem_cons_of_mem _ hz)) with e | hz'
      · subst e
        have := b.1 z hz
        rw [cmp_self] at this
        omega
      · exact hz'
/-- How many of the lists, each counted once, are less than one. -/
def rk (ds : List (List Nat)) (d : List Nat) : Nat := (srt ds).countP fun e => decide (cmp e d < 0)
/-- The numbers of the lists. -/
def cols (ds : List (List Nat)) : List Nat := ds.map (rk ds)
theorem cols_len (ds : List (List Nat)) : (cols ds).length = ds.length := List.length_map ..
theorem len_ins (d : List Nat) : ∀ l : List (List Nat), (ins d l).length ≤ l.length + 1
  | [] => by simp [ins]
  | e :: l => by
    unfold ins
    split
    · simp
    · split
      · simp
      · have := len_ins d l
        simp only [List.length_cons]; omega
theorem len_srt : ∀ l : List (List Nat), (srt l).length ≤ l.length
  | [] => Nat.le_refl _
  | d :: l => by
    have := len_srt l
    have := len_ins d (srt l)
    unfold srt
    simp only [List.length_cons]; omega
theorem rk_lt {ds : List (List Nat)} {d e : List Nat} (hd : d ∈ ds) (h : cmp d e < 0) : rk ds d < rk ds e := by
  unfold rk
  have hm : d ∈ srt ds := mem_srt.2 hd
  have h1 : ∀ x ∈ srt ds, decide (cmp x d < 0) = true → decide (cmp x e < 0) = true := fun x _ hx => decide_eq_true (cmp_trans (of_decide_eq_true hx) h)
  obtain ⟨s, t, hst⟩ := List.append_of_mem hm
  rw [hst, List.countP_append, List.countP_append, List.countP_cons, List.countP_cons]
  have a1 : s.countP (fun x => decide (cmp x d < 0)) ≤ s.countP (fun x => decide (cmp x e < 0)) := List.countP_mono_left fun x hx hp => h1 x (by rw [hst]; simp [hx]) hp
  have a2 : t.countP (fun x => decide (cmp x d < 0)) ≤ t.countP (fun x => decide (cmp x e < 0)) := List.countP_mono_left fun x hx hp => h1 x (by rw [hst]; simp [hx]) hp
  have b1 : decide (cmp d d < 0) = false := by rw [cmp_self]; rfl
  have b2 : decide (cmp d e < 0) = true := decide_eq_true h
  simp only [b1, b2]
  simp
  omega
theorem rk_inj {ds : List (List Nat)} {d e : List Nat} (hd : d ∈ ds) (he : e ∈ ds) (h : rk ds d = rk ds e) : d = e := by
  rcases cmp_range d e with h1 | h1 | h1
  · have := rk_lt hd (show cmp d e < 0 by omega); omega
  · exact cmp_eq h1
  · have a := cmp_anti d e
    have := rk_lt he (show cmp e d < 0 by omega); omega
/-- What an element is at first. -/
def first (a : Gs.St) (x : Nat) : List Nat := [(if a.s x then 2 else 0) + (if a.r x x then 1 else 0)]
/-- In which way an element is related to another one. -/
def way (a : Gs.St) (x y : Nat) : Nat := (if a.r y x then 1 else 0) + (if a.r x y then 2 else 0)
/-- The colours of those that are related to an element in a way, of the first n. -/
def ways (a : Gs.St) (c : List Nat) (x k : Nat) (n : Nat) : List Nat := ((List.range n).filter fun y => decide (y ≠ x) && decide (way a x y = k)).map fun y => c.getD y 0
def sortL (l : List Nat) : List Nat := l.mergeSort fun x y => decide (x ≤ y)
/-- An element by the colours of all. -/
def descr (a : Gs.St) (c : List Nat) (x : Nat) : List Nat :=
  [c.getD x 0] ++ ((ways a c x 0 a.n).length :: sortL (ways a c x 0 a.n)) ++ ((ways a c x 1 a.n).length :: sortL (ways a c x 1 a.n)) ++ ((ways a c x 2 a.n).length :: sortL (ways a c x 2 a.n)) ++ ((ways a c x 3 a.n).length :: sortL (ways a c x 3 a.n))
/-- What the elements of some structures are at first. -/
def firsts : List Gs.St → List (List Nat)
  | [] => []
  | a :: l => (List.range a.n).map (first a) ++ firsts l
/-- The elements of some structures by the colours of all, one behind the other. -/
def descrs : List Gs.St → List Nat → List (List Nat)
  | [], _ => []
  | a :: l, c => (List.range a.n).map (descr a (c.take a.n)) ++ descrs l (c.drop a.n)
/-- The colours after some rounds. -/
def after (l : List Gs.St) : Nat → List Nat
  | 0 => cols (firsts l)
  | r + 1 => cols (descrs l (after l r))
def many : List Gs.St → Nat
  | [] => 0
  | a :: l => a.n + many l
theorem firsts_len : ∀ l : List Gs.St, (firsts l).length = many l
  | [] => rfl
  | a :: l => by simp [firsts, many, firsts_len l]
theorem descrs_len : ∀ (l : List Gs.St) (c : List Nat), (descrs l c).length = many l
  | [], _ => rfl
  | a :: l, c => by simp [descrs, many, descrs_len l]
theorem after_len (l : List Gs.St) : ∀ r, (after l r).length = many l
  | 0 => by rw [after, cols_len, firsts_len]
  | r + 1 => by rw [after, cols_len, descrs_len]
end Col
end Go.Proofs.YtofmagiahmmmgaaGreatDoor

namespace Go.Proofs.YtofmagiahmmmgaaGreatDoor
open Go.RowKit
set_option linter.unusedVariables false
set_option maxRecDepth 100000
def cmpI (x y : Int) : Int := if x < y then -1 else if y < x then 1 else 0
theorem isNaN_no (x : Int) (w : World) : Calls Tryz.prog 242 #[.int .i64 x] w fun e w' => e = .returned (.bool false) ∧ w' = w := by
  go_enter Tryz.func242, Tryz.ntmps242
  go_wp2_with fail
  go_ret
  exact ⟨ret_bool (by simp), rfl⟩
theorem Compare_int (x y : Int) (w : World) : Calls Tryz.prog 236 #[.int .i64 x, .int .i64 y] w fun e w' => e = .returned (.int .i64 (cmpI x y)) ∧ w' = w := by
  have h1 := isNaN_no x w
  have h2 := isNaN_no y w
  have H1 := Lib.hid h1; have H2 := Lib.hid h2
  clear h1 h2
  rcases Int.lt_trichotomy x y with h | h | h
  · have e : cmpI x y = -1 := by unfold cmpI; rw [if_pos h]
    rw [e]
    clear e
    go_enter Tryz.func236, Tryz.ntmps236
    go_wp2_with fail
    refine H1.out.mono ?_; rintro e w1 ⟨rfl, hw⟩; rw [hw]; clear hw w1
    go_wp2_with fail
    refine H2.out.mono ?_; rintro e w1 ⟨rfl, hw⟩; rw [hw]; clear hw w1
    go_wp2_with fail
    go_ret
    exact ⟨rfl, rfl⟩
  · have e : cmpI x y = 0 := by unfold cmpI; rw [if_neg (by omega), if_neg (by omega)]
    rw [e]
    have h3 : ¬ x < y := by omega
    have h4 : ¬ y < x := by omega
    clear e h
    go_enter Tryz.func236, Tryz.ntmps236
    go_wp2_with fail
    refine H1.out.mono ?_; rintro e w1 ⟨rfl, hw⟩; rw [hw]; clear hw w1
    go_wp2_with fail
    refine H2.out.mono ?_; rintro e w1 ⟨rfl, hw⟩; rw [hw]; clear hw w1
    go_wp2_with fail
    go_ret
    exact ⟨rfl, rfl⟩
  · have e : cmpI x y = 1 := by unfold cmpI; rw [if_neg (by omega), if_pos h]
    rw [e]
    have h3 : ¬ x < y := by omega
    clear e
    go_enter Tryz.func236, Tryz.ntmps236
    go_wp2_with fail
    refine H1.out.mono ?_; rintro e w1 ⟨rfl, hw⟩; rw [hw]; clear hw w1
    go_wp2_with fail
    refine H2.out.mono ?_; rintro e w1 ⟨rfl, hw⟩; rw [hw]; clear hw w1
    go_wp2_with fail
    go_ret
    exact ⟨rfl, rfl⟩
theorem cmp_at {L M : List Nat} {k : Nat} (h1 : k < L.length) (h2 : k < M.length) : Col.cmp (L.drop k) (M.drop k) = if cmpI (L.getD k 0 : Nat) (M.getD k 0 : Nat) = 0 then Col.cmp (L.drop (k + 1)) (M.drop (k + 1)) else cmpI (L.getD k 0 : Nat) (M.getD k 0 : Nat) := by
  rw [List.drop_eq_getElem_cons h1, List.drop_eq_getElem_cons h2, Col.cmp]
  have e1 : L.getD k 0 = L[k] := by simp [h1]
  have e2 : M.getD k 0 = M[k] := by simp [h2]
  rw [e1, e2]
  unfold cmpI
  by_cases a : L[k] < M[k]
  · have a' : (L[k] : Int) < (M[k] : Int) := by omega
    simp [a, a']
  · have a' : ¬ (L[k] : Int) < (M[k] : Int) := by omega
    by_cases b : M[k] < L[k]
    · have b' : (M[k] : Int) < (L[k] : Int) := by omega
      simp [a, a', b, b']
    · have b' : ¬ (M[k] : Int) < (L[k] : Int) := by omega
      simp [a, a', b, b']
theorem cmp_end1 {L M : List Nat} {k : Nat} (h1 : k < L.length) (h2 : M.length ≤ k) : Col.cmp (L.drop k) (M.drop k) = 1 := by
  rw [List.drop_eq_getElem_cons h1, List.drop_eq_nil_of_le h2]; rfl
theorem cmp_end2 {L M : List Nat} {k : Nat} (h1 : L.length ≤ k) (h2 : k < M.length) : Col.cmp (L.drop k) (M.drop k) = -1 := by
  rw [List.drop_eq_getElem_cons h2, List.drop_eq_nil_of_le h1]; rfl
theorem cmp_end3 {L M : List Nat} {k : Nat} (h1 : L.length ≤ k) (h2 : M.length ≤ k) : Col.cmp (L.drop k) (M.drop k) = 0 := by
  rw [List.drop_eq_nil_of_le h1, List.drop_eq_nil_of_le h2]; rfl
set_option maxHeartbeats 1000000 in
theorem sCompare_any (v u : Value) (L M : List Nat) (w : World) (hv : NumsAt w v L) (hu : NumsAt w u M) :
    Calls Tryz.prog 165 #[v, u] w fun e w' => e = .returned (.int .i64 (Col.cmp L M)) ∧ w' = w := by
  obtain ⟨a, ca, rfl, c1, c2, hca⟩ := hv.view
  obtain ⟨b, cb, rfl, d1, d2, hcb⟩ := hu.view
  unfold maxLen at c2 d2
  have HCA := Lib.hid hca; have HCB := Lib.hid hcb
  clear hca hcb hv hu
  obtain ⟨RES, hR⟩ : ∃ r, Col.cmp L M = r := ⟨_, rfl⟩
  have HR := Lib.hid hR
  rw [hR]
  clear hR
  go_enter Tryz.func165, Tryz.ntmps165
  go_wp2_with fail
  go_loop [11] (fun i => ∃ k : Nat, k ≤ L.length ∧ k ≤ M.length ∧ i = .int .i64 (k : Int) ∧ Hid (Col.cmp (L.drop k) (M.drop k) = RES)) (fun i => L.length - (intOf i).toNat)
  case atStart => exact ⟨0, by omega, by omega, rfl, HR.out⟩
  case round =>
    obtain ⟨k, hk, hkm, rfl, HK⟩ := hrel
    by_cases hlt : k < L.length
    · have hltI : (k : Int) < (L.length : Int) := by omega
      obtain ⟨ga, oa, rfl, hga, hcka⟩ := HCA.out (by omega)
      have e1 := hcka k hlt
      by_cases hl2 : k < M.length
      · have hl2I : ¬ (M.length : Int) ≤ (k : Int) := by omega
        have hl2J : (k : Int) < (M.length : Int) := by omega
        obtain ⟨gb, ob, rfl, hgb, hckb⟩ := HCB.out (by omega)
        have e2 := hckb k hl2
        have HAT := Lib.hid (HK.out.symm.trans (cmp_at hlt hl2))
        obtain ⟨x, hx⟩ : ∃ x, L.getD k 0 = x := ⟨_, rfl⟩
        obtain ⟨y, hy⟩ : ∃ x, M.getD k 0 = x := ⟨_, rfl⟩
        rw [hx] at e1 HAT
        rw [hy] at e2 HAT
        have HC := Lib.hid (Compare_int (x : Int) (y : Int) w)
        obtain ⟨c, hc⟩ : ∃ c, cmpI (x : Int) (y : Int) = c := ⟨_, rfl⟩
        rw [hc] at HC HAT
        clear hcka hckb hx hy hc HK HR
        by_cases h0 : c = 0
        · subst h0
          have HN : Hid (Col.cmp (L.drop (k + 1)) (M.drop (k + 1)) = RES) := HAT.out.symm
          clear HAT
          go_wp2_with fail
          refine HC.out.mono ?_; rintro e w1 ⟨rfl, hw⟩; rw [hw]; clear hw w1
          go_wp2_with fail
          go_round
          case rel => exact ⟨k + 1, by omega, by omega, by go_num, HN⟩
          case measure => simp [intOf]; omega
        · have HN : Hid (RES = c) := by have h := HAT.out; rw [if_neg h0] at h; exact h
          clear HAT
          go_wp2_with fail
          refine HC.out.mono ?_; rintro e w1 ⟨rfl, hw⟩; rw [hw]; clear hw w1
          go_wp2_with fail
          go_ret
          exact ⟨ret_int HN.out.symm, rfl⟩
      · have hl2I : (M.length : Int) ≤ (k : Int) := by omega
        have HN : Hid (RES = 1) := HK.out.symm.trans (cmp_end1 hlt (by omega))
        clear hcka HK HR
        go_wp2_with fail
        go_ret
        exact ⟨ret_int HN.out.symm, rfl⟩
    · have hltI : ¬ (k : Int) < (L.length : Int) := by omega
      by_cases hl2 : L.length < M.length
      · have hl2I : (L.length : Int) < (M.length : Int) := by omega
        have HN : Hid (RES = -1) := HK.out.symm.trans (cmp_end2 (by omega) (by omega))
        clear HK HR
        go_wp2_with fail
        go_ret
        exact ⟨ret_int HN.out.symm, rfl⟩
      · have hl2I : ¬ (L.length : Int) < (M.length : Int) := by omega
        have HN : Hid (RES = 0) := HK.out.symm.trans (cmp_end3 (by omega) (by omega))
        clear HK HR
        go_wp2_with fail
        go_ret
        exact ⟨ret_int HN.out.symm, rfl⟩
theorem list_ne_at {L M : List Nat} {k : Nat} (h1 : k < L.length) (h2 : k < M.length) (h : L.getD k 0 ≠ M.getD k 0) : decide (L = M) = false := by
  rw [decide_eq_false_iff_not]
  rintro rfl
  exact h rfl
theorem list_eq_of {L M : List Nat} (hl : L.length = M.length) (h : ∀ j, j < L.length → L.getD j 0 = M.getD j 0) : L = M := by
  apply List.ext_getElem hl
  intro i h1 h2
  have := h i h1
  simpa [h1, h2] using this
set_option maxHeartbeats 1000000 in
theorem sEqual_any (v u : Value) (L M : List Nat) (w : World) (hv : NumsAt w v L) (hu : NumsAt w u M) :
    Calls Tryz.prog 62 #[v, u] w fun e w' => e = .returned (.bool (decide (L = M))) ∧ ∃ q, w' = w.drewN q := by
  obtain ⟨a, ca, rfl, c1, c2, hca⟩ := hv.view
  obtain ⟨b, cb, rfl, d1, d2, hcb⟩ := hu.view
  unfold maxLen at c2 d2
  have HCA := Lib.hid hca; have HCB := Lib.hid hcb
  clear hca hcb hv hu
  obtain ⟨RES, hR⟩ : ∃ r, decide (L = M) = r := ⟨_, rfl⟩
  have HR := Lib.hid hR
  rw [hR]
  clear hR
  by_cases hlm : L.length = M.length
  · have hlmI : (L.length : Int) = (M.length : Int) := by omega
    have HLM := Lib.hid hlm
    rw [← hlm] at d1 HCB ⊢
    clear hlm hlmI
    go_enter Tryz.func62, Tryz.ntmps62
    go_wp2_with fail
    go_loopw [13] (fun i wr => ∃ (k q : Nat), k ≤ L.length ∧ i = .int .i64 (k : Int) ∧ wr = w.drewN q ∧ Hid (∀ j, j < k → L.getD j 0 = M.getD j 0)) (fun i _ => L.length - (intOf i).toNat)
    case atStart => exact ⟨0, 0, by omega, rfl, rfl, fun j hj => absurd hj (Nat.not_lt_zero j)⟩
    case round =>
      obtain ⟨k, q, hk, rfl, rfl, HK⟩ := hrel
      by_cases hlt : k < L.length
      · have hltI : (k : Int) < (L.length : Int) := by omega
        obtain ⟨ga, oa, rfl, hga, hcka⟩ := HCA.out (by omega)
        obtain ⟨gb, ob, rfl, hgb, hckb⟩ := HCB.out (by omega)
        have e1 := hcka k hlt
        have e2 := hckb k hlt
        have hkM : k < M.length := by rw [← HLM.out]; exact hlt
        obtain ⟨x, hx⟩ : ∃ x, L.getD k 0 = x := ⟨_, rfl⟩
        obtain ⟨y, hy⟩ : ∃ x, M.getD k 0 = x := ⟨_, rfl⟩
        have HXY : Hid (L.getD k 0 = x ∧ M.getD k 0 = y) := ⟨hx, hy⟩
        rw [hx] at e1
        rw [hy] at e2
        clear hcka hckb hx hy
        by_cases hxy : x = y
        · subst hxy
          go_upto_region 6 with fail
          go_region
          all_goals
            go_wp2_with fail
            go_roundw
            case rel =>
              refine ⟨k + 1, q + 1, by omega, by go_num, rfl, fun j hj => ?_⟩
              by_cases hjk : j = k
              · rw [hjk, HXY.out.1, HXY.out.2]
              · exact HK.out j (by omega)
            case measure => simp [intOf]; omega
        · have HN : Hid (RES = false) := HR.out.symm.trans (list_ne_at hlt hkM (by rw [HXY.out.1, HXY.out.2]; exact hxy))
          have hxyI : ¬ (x : Int) = (y : Int) := by omega
          have hxyB : ((x : Int) == (y : Int)) = false := by rw [beq_eq_false_iff_ne]; exact hxyI
          go_upto_region 6 with fail
          go_region
          all_goals
            go_wp2_with fail
            go_ret
            exact ⟨ret_bool HN.out.symm, q + 1, rfl⟩
      · have hltI : ¬ (k : Int) < (L.length : Int) := by omega
        have HN : Hid (RES = true) := HR.out.symm.trans (by
          rw [decide_eq_true_eq]
          exact list_eq_of HLM.out (fun j hj => HK.out j (by omega)))
        go_wp2_with fail
        go_ret
        exact ⟨ret_bool HN.out.symm, q, rfl⟩
  · have hlmI : ¬ (L.length : Int) = (M.length : Int) := by omega
    have HN : Hid (RES = false) := HR.out.symm.trans (by rw [decide_eq_false_iff_not]; rintro rfl; exact hlm rfl)
    go_enter Tryz.func62, Tryz.ntmps62
    go_wp2_with fail
    go_ret
    exact ⟨ret_bool HN.out.symm, 0, rfl⟩
end Go.Proofs.YtofmagiahmmmgaaGreatDoor
