/- Sentences of lengths, plainly: the tree of their text, its rank, its variables, and its truth in an order. Conditions: those that each states. -/
import Derived.Test.YtenjojakjdaamaaDoorLong
import Derived.Test.YtenjojakjdaamaaDoorFm
namespace Go.Proofs.YtenjojakjdaamaaDoor
open Go.RowKit
set_option linter.unusedVariables false

theorem joinL_from (op : ByteArray) : ∀ (L : List ByteArray) (o : ByteArray), L.foldl (fun o x => o ++ (op ++ x)) o = o ++ joinL op L
  | [], o => by show o = o ++ ByteArray.empty; simp
  | x :: L, o => by
    show L.foldl _ (o ++ (op ++ x)) = o ++ L.foldl _ (ByteArray.empty ++ (op ++ x))
    rw [joinL_from op L (o ++ (op ++ x)), joinL_from op L (ByteArray.empty ++ (op ++ x))]
    simp [ByteArray.append_assoc]
theorem joinL_cons (op x : ByteArray) (L : List ByteArray) : joinL op (x :: L) = op ++ x ++ joinL op L := by
  show L.foldl _ (ByteArray.empty ++ (op ++ x)) = _
  rw [joinL_from op L]; simp
theorem joinP_two (op m n : ByteArray) (M : List ByteArray) : joinP op (m :: n :: M) = op ++ m ++ joinP op (n :: M) := by
  unfold joinP
  rw [if_neg (by simp), if_neg (by simp)]
  have e1 : (m :: n :: M).take ((m :: n :: M).length - 1) = m :: (n :: M).take ((n :: M).length - 1) := by simp
  have e2 : (m :: n :: M).getD ((m :: n :: M).length - 1) ByteArray.empty = (n :: M).getD ((n :: M).length - 1) ByteArray.empty := by simp [List.getD_eq_getElem?_getD]
  rw [e1, e2, joinL_cons, ByteArray.append_assoc (a := op ++ m)]
theorem joinP_one (op m : ByteArray) : joinP op [m] = m := by
  unfold joinP
  rw [if_neg (by simp)]
  show joinL op [] ++ m = m
  show ByteArray.empty ++ m = m
  simp

namespace Fm
/-- All of some formulas. -/
def conj : List T → T
  | [] => .lit true
  | [a] => a
  | a :: b :: l => .bin false a (conj (b :: l))
theorem text_conj : ∀ (L : List T) (M : List ByteArray), M.map (fun s => s.data.toList) = L.map text → (joinP ⟨#[38]⟩ M).data.toList = text (conj L)
  | [], M, h => by
    obtain rfl : M = [] := by simpa using h
    rfl
  | [a], M, h => by
    match M, h with
    | [m], h =>
      rw [joinP_one]
      show m.data.toList = text a
      simpa using h
    | [], h => simp at h
    | _ :: _ :: _, h => simp at h
  | a :: b :: l, M, h => by
    match M, h with
    | [], h => simp at h
    | [_], h => simp at h
    | m :: n :: M, h =>
      have h' : m.data.toList = text a ∧ (n :: M).map (fun s => s.data.toList) = (b :: l).map text := by
        simp only [List.map_cons, List.cons.injEq] at h
        exact ⟨h.1, by rw [List.map_cons, List.map_cons, h.2.1, h.2.2]⟩
      rw [joinP_two]
      have ih := text_conj (b :: l) (n :: M) h'.2
      show _ = (38 : UInt8) :: (text a ++ text (conj (b :: l)))
      rw [ByteArray.data_append, ByteArray.data_append, Array.toList_append, Array.toList_append, ih, h'.1]
      rfl
theorem holds_conj (a : Gs.St) (e : Env) : ∀ L : List T, holds a (conj L) e = L.all fun f => holds a f e
  | [] => rfl
  | [f] => by simp [conj]
  | f :: g :: l => by
    show (holds a f e && holds a (conj (g :: l)) e) = _
    rw [holds_conj a e (g :: l)]; rfl
theorem rank_conj : ∀ L : List T, rank (conj L) = (L.map rank).foldr max 0
  | [] => rfl
  | [f] => by simp [conj]
  | f :: g :: l => by
    show max (rank f) (rank (conj (g :: l))) = _
    rw [rank_conj (g :: l)]; rfl
theorem free_conj (u : Fin 4) : ∀ L : List T, (free (conj L)).testBit u.val = L.any fun f => (free f).testBit u.val
  | [] => by show (0 : Nat).testBit u.val = _; simp
  | [f] => by simp [conj]
  | f :: g :: l => by
    show (free (.bin false f (conj (g :: l)))).testBit u.val = _
    rw [free_bin, free_conj u (g :: l)]; rfl
theorem vars_conj (u : Fin 4) : ∀ L : List T, (vars (conj L)).testBit u.val = L.any fun f => (vars f).testBit u.val
  | [] => by show (0 : Nat).testBit u.val = _; simp
  | [f] => by simp [conj]
  | f :: g :: l => by
    show (vars f ||| vars (conj (g :: l))).testBit u.val = _
    rw [Nat.testBit_or, vars_conj u (g :: l)]; rfl
/-- The first variable that is neither of two. -/
def vN (f g : Option (Fin 4)) : Fin 4 := if f ≠ some 0 ∧ g ≠ some 0 then 0 else if f ≠ some 1 ∧ g ≠ some 1 then 1 else 2
theorem vN_ne (f g : Option (Fin 4)) : f ≠ some (vN f g) ∧ g ≠ some (vN f g) ∧ (vN f g).val < 3 := by
  rcases f with _ | f <;> rcases g with _ | g <;> first | decide | (revert f; decide) | (revert g; decide) | (revert f g; decide)
def fstL (f : Option (Fin 4)) (v : Fin 4) : List T := match f with | none => [] | some x => [.rel true x v]
def sndL (g : Option (Fin 4)) (v : Fin 4) : List T := match g with | none => [] | some y => [.rel true v y]
/-- The tree of a sentence of a length. -/
def longT (n : Nat) (f g : Option (Fin 4)) : T :=
  if h : n = 0 then .lit true else
    .qu .some (vN f g) (conj (fstL f (vN f g) ++ sndL g (vN f g) ++ (if (n - 1) / 2 = 0 then [] else [longT ((n - 1) / 2) f (some (vN f g))]) ++ (if n - 1 - (n - 1) / 2 = 0 then [] else [longT (n - 1 - (n - 1) / 2) (some (vN f g)) g])))
termination_by n
decreasing_by all_goals omega
end Fm

/-- The name of a variable, or none. -/
def oNm : Option (Fin 4) → ByteArray
  | none => ByteArray.empty
  | some v => ⟨#[Fm.vb v]⟩
def oLs : Option (Fin 4) → List UInt8
  | none => []
  | some v => [Fm.vb v]
theorem oNm_list (f : Option (Fin 4)) : (oNm f).toList = oLs f := by rw [ByteArray.toList_eq]; cases f <;> rfl
def vL (f g : List UInt8) : Nat → List UInt8
  | 0 => []
  | k + 1 => if vL f g k = [] ∧ ¬ [UInt8.ofNat (97 + k)] = f ∧ ¬ [UInt8.ofNat (97 + k)] = g then [UInt8.ofNat (97 + k)] else vL f g k
theorem vA_list (f g : ByteArray) : ∀ k, (vA f g k).toList = vL f.toList g.toList k
  | 0 => by show ByteArray.empty.toList = []; rw [ByteArray.toList_eq]; rfl
  | k + 1 => by
    rw [vA, vL, ← vA_list f g k, nm_toList]
    split
    · exact nm_toList k
    · rfl
theorem vOf_oNm (f g : Option (Fin 4)) : vOf (oNm f) (oNm g) = oNm (some (Fm.vN f g)) := by
  have h : (vOf (oNm f) (oNm g)).toList = oLs (some (Fm.vN f g)) := by
    show (vA _ _ 4).toList = _
    rw [vA_list, oNm_list, oNm_list]
    rcases f with _ | f <;> rcases g with _ | g <;> first | decide | (revert f; decide) | (revert g; decide) | (revert f g; decide)
  rw [text_is] at h
  exact h
theorem oNm_emp (f : Option (Fin 4)) : (!(oNm f).toList.isEmpty) = f.isSome := by rw [oNm_list]; cases f <;> rfl
theorem long_text : ∀ (n : Nat) (f g : Option (Fin 4)), (longP n (oNm f) (oNm g)).data.toList = Fm.text (Fm.longT n f g) := by
  intro n
  induction n using Nat.strongRecOn with
  | _ n ih =>
    intro f g
    rw [longP, Fm.longT]
    by_cases h0 : n = 0
    · rw [dif_pos h0, dif_pos h0]; rfl
    · rw [dif_neg h0, dif_neg h0, vOf_oNm, oNm_emp, oNm_emp]
      generalize hv : Fm.vN f g = v
      have i1 := ih ((n - 1) / 2) (by omega) f (some v)
      have i2 := ih (n - 1 - (n - 1) / 2) (by omega) (some v) g
      rw [ByteArray.data_append, Array.toList_append, Fm.text_conj (Fm.fstL f v ++ Fm.sndL g v ++ (if (n - 1) / 2 = 0 then [] else [Fm.longT ((n - 1) / 2) f (some v)]) ++ (if n - 1 - (n - 1) / 2 = 0 then [] else [Fm.longT (n - 1 - (n - 1) / 2) (some v) g]))]
      · rfl
      · generalize (n - 1) / 2 = k at *
        generalize n - 1 - k = j at *
        rw [List.map_append, List.map_append, List.map_append, List.map_append, List.map_append, List.map_append]
        congr 1
        · congr 1
          · congr 1
            · cases f <;> rfl
            · cases g <;> rfl
          · split
            · rfl
            · simp only [List.map_cons, List.map_nil]; rw [i1]
        · split
          · rfl
          · simp only [List.map_cons, List.map_nil]; rw [i2]

theorem cnt_one {p : Nat → Bool} : ∀ {n : Nat}, 1 ≤ Fm.cnt p n ↔ ∃ x, x < n ∧ p x = true
  | 0 => by simp [Fm.cnt]
  | n + 1 => by
    have ih := cnt_one (p := p) (n := n)
    unfold Fm.cnt
    constructor
    · intro h
      by_cases hp : p n = true
      · exact ⟨n, by omega, hp⟩
      · rw [if_neg hp] at h
        obtain ⟨x, h1, h2⟩ := ih.1 h
        exact ⟨x, by omega, h2⟩
    · rintro ⟨x, h1, h2⟩
      by_cases hx : x = n
      · subst hx; rw [if_pos h2]; omega
      · have := ih.2 ⟨x, by omega, h2⟩
        omega
def loF (f : Option (Fin 4)) (e : Fm.Env) : Nat := match f with | none => 0 | some x => e x + 1
def hiF (g : Option (Fin 4)) (m : Nat) (e : Fm.Env) : Nat := match g with | none => m | some y => e y
theorem loF_upd {f : Option (Fin 4)} {v : Fin 4} {e : Fm.Env} {x : Nat} (h : f ≠ some v) : loF f (Fm.upd e v x) = loF f e := by
  cases f with
  | none => rfl
  | some u => show Fm.upd e v x u + 1 = e u + 1; unfold Fm.upd; rw [if_neg (fun h' => h (by rw [h']))]
theorem hiF_upd {f : Option (Fin 4)} {v : Fin 4} {e : Fm.Env} {m x : Nat} (h : f ≠ some v) : hiF f m (Fm.upd e v x) = hiF f m e := by
  cases f with
  | none => rfl
  | some u => show Fm.upd e v x u = e u; unfold Fm.upd; rw [if_neg (fun h' => h (by rw [h']))]
theorem upd_at (e : Fm.Env) (v : Fin 4) (x : Nat) : Fm.upd e v x v = x := by unfold Fm.upd; rw [if_pos rfl]
theorem long_holds (m : Nat) : ∀ (n : Nat) (f g : Option (Fin 4)) (e : Fm.Env), hiF g m e ≤ m → (Fm.holds (Gs.ord m) (Fm.longT n f g) e = true ↔ n ≤ hiF g m e - loF f e) := by
  intro n
  induction n using Nat.strongRecOn with
  | _ n ih =>
    intro f g e hm
    rw [Fm.longT]
    by_cases h0 : n = 0
    · rw [dif_pos h0]; subst h0; simp [Fm.holds]
    · rw [dif_neg h0]
      obtain ⟨v1, v2, _⟩ := Fm.vN_ne f g
      generalize hv : Fm.vN f g = v at *
      simp only [Fm.holds, decide_eq_true_eq]
      show 1 ≤ Fm.cnt _ m ↔ _
      rw [cnt_one]
      have key : ∀ x, x < m → (Fm.holds (Gs.ord m) (Fm.conj (Fm.fstL f v ++ Fm.sndL g v ++ (if (n - 1) / 2 = 0 then [] else [Fm.longT ((n - 1) / 2) f (some v)]) ++ (if n - 1 - (n - 1) / 2 = 0 then [] else [Fm.longT (n - 1 - (n - 1) / 2) (some v) g]))) (Fm.upd e v x) = true ↔
          loF f e ≤ x ∧ x < hiF g m e ∧ (n - 1) / 2 ≤ x - loF f e ∧ n - 1 - (n - 1) / 2 ≤ hiF g m e - (x + 1)) := by
        intro x hx
        have i1 := ih ((n - 1) / 2) (by omega) f (some v) (Fm.upd e v x) (by show Fm.upd e v x v ≤ m; rw [upd_at]; omega)
        have i2 := ih (n - 1 - (n - 1) / 2) (by omega) (some v) g (Fm.upd e v x) (by rw [hiF_upd v2]; exact hm)
        rw [loF_upd v1, show hiF (some v) m (Fm.upd e v x) = x from upd_at e v x] at i1
        rw [hiF_upd v2, show loF (some v) (Fm.upd e v x) = x + 1 by show Fm.upd e v x v + 1 = _; rw [upd_at]] at i2
        have j1 : (Fm.fstL f v).all (fun φ => Fm.holds (Gs.ord m) φ (Fm.upd e v x)) = true ↔ loF f e ≤ x := by
          cases f with
          | none => simp [Fm.fstL, loF]
          | some u =>
            have hu : Fm.upd e v x u = e u := by unfold Fm.upd; rw [if_neg (fun h' => v1 (by rw [h']))]
            simp only [Fm.fstL, List.all_cons, List.all_nil, Bool.and_true, Fm.holds, Gs.ord, upd_at, hu, decide_eq_true_eq, loF]
            omega
        have j2 : (Fm.sndL g v).all (fun φ => Fm.holds (Gs.ord m) φ (Fm.upd e v x)) = true ↔ x < hiF g m e := by
          cases g with
          | none => simp [Fm.sndL, hiF, hx]
          | some u =>
            have hu : Fm.upd e v x u = e u := by unfold Fm.upd; rw [if_neg (fun h' => v2 (by rw [h']))]
            simp only [Fm.sndL, List.all_cons, List.all_nil, Bool.and_true, Fm.holds, Gs.ord, upd_at, hu, decide_eq_true_eq, hiF]
        have j3 : (if (n - 1) / 2 = 0 then [] else [Fm.longT ((n - 1) / 2) f (some v)]).all (fun φ => Fm.holds (Gs.ord m) φ (Fm.upd e v x)) = true ↔ (n - 1) / 2 ≤ x - loF f e := by
          split
          · rename_i h; rw [h]; simp
          · simp only [List.all_cons, List.all_nil, Bool.and_true]; exact i1
        have j4 : (if n - 1 - (n - 1) / 2 = 0 then [] else [Fm.longT (n - 1 - (n - 1) / 2) (some v) g]).all (fun φ => Fm.holds (Gs.ord m) φ (Fm.upd e v x)) = true ↔ n - 1 - (n - 1) / 2 ≤ hiF g m e - (x + 1) := by
          split
          · rename_i h; rw [h]; simp
          · simp only [List.all_cons, List.all_nil, Bool.and_true]; exact i2
        rw [Fm.holds_conj, List.all_append, List.all_append, List.all_append, Bool.and_eq_true, Bool.and_eq_true, Bool.and_eq_true, j1, j2, j3, j4]
        simp only [and_assoc]
      constructor
      · rintro ⟨x, hx, hp⟩
        have := (key x hx).1 hp
        omega
      · intro h
        refine ⟨loF f e + (n - 1) / 2, by omega, (key _ (by omega)).2 ?_⟩
        omega
theorem long_rank : ∀ (n : Nat) (f g : Option (Fin 4)), (n = 0 → Fm.rank (Fm.longT n f g) = 0) ∧ n < 2 ^ Fm.rank (Fm.longT n f g) ∧ (1 ≤ n → 1 ≤ Fm.rank (Fm.longT n f g) ∧ 2 ^ (Fm.rank (Fm.longT n f g) - 1) ≤ n) := by
  intro n
  induction n using Nat.strongRecOn with
  | _ n ih =>
    intro f g
    rw [Fm.longT]
    by_cases h0 : n = 0
    · rw [dif_pos h0]; subst h0; exact ⟨fun _ => rfl, by decide, by omega⟩
    · rw [dif_neg h0]
      generalize hv : Fm.vN f g = v
      obtain ⟨a0, a1, a2⟩ := ih ((n - 1) / 2) (by omega) f (some v)
      obtain ⟨b0, b1, b2⟩ := ih (n - 1 - (n - 1) / 2) (by omega) (some v) g
      simp only [Fm.rank, Fm.rank_conj]
      have e : ((Fm.fstL f v ++ Fm.sndL g v ++ (if (n - 1) / 2 = 0 then [] else [Fm.longT ((n - 1) / 2) f (some v)]) ++ (if n - 1 - (n - 1) / 2 = 0 then [] else [Fm.longT (n - 1 - (n - 1) / 2) (some v) g])).map Fm.rank).foldr max 0 = max (if (n - 1) / 2 = 0 then 0 else Fm.rank (Fm.longT ((n - 1) / 2) f (some v))) (if n - 1 - (n - 1) / 2 = 0 then 0 else Fm.rank (Fm.longT (n - 1 - (n - 1) / 2) (some v) g)) := by
        generalize (n - 1) / 2 = k
        generalize n - 1 - k = j
        cases f <;> cases g <;> (simp only [Fm.fstL, Fm.sndL]; split <;> split <;> simp [Fm.rank])
      rw [e]
      clear e
      generalize hk : (n - 1) / 2 = k at *
      generalize hj : n - 1 - k = j at *
      have hn : n = 1 + k + j := by omega
      have hkj : k ≤ j ∧ j ≤ k + 1 := by omega
      have e1 : (if k = 0 then 0 else Fm.rank (Fm.longT k f (some v))) = Fm.rank (Fm.longT k f (some v)) := by
        split
        · rename_i h; rw [h, Fm.longT, dif_pos rfl]; rfl
        · rfl
      have e2 : (if j = 0 then 0 else Fm.rank (Fm.longT j (some v) g)) = Fm.rank (Fm.longT j (some v) g) := by
        split
        · rename_i h; rw [h, Fm.longT, dif_pos rfl]; rfl
        · rfl
      rw [e1, e2]
      clear e1 e2
      generalize Fm.rank (Fm.longT k f (some v)) = r at *
      generalize Fm.rank (Fm.longT j (some v) g) = s at *
      show (n = 0 → max r s + 1 = 0) ∧ n < 2 ^ (max r s + 1) ∧ (1 ≤ n → 1 ≤ max r s + 1 ∧ 2 ^ (max r s + 1 - 1) ≤ n)
      rw [Nat.add_sub_cancel, Nat.pow_succ]
      have m1 : 2 ^ r ≤ 2 ^ max r s := Nat.pow_le_pow_right (by omega) (Nat.le_max_left _ _)
      have m2 : 2 ^ s ≤ 2 ^ max r s := Nat.pow_le_pow_right (by omega) (Nat.le_max_right _ _)
      refine ⟨fun h => absurd h h0, by omega, fun _ => ⟨by omega, ?_⟩⟩
      have d : ∀ {t i : Nat}, 1 ≤ i → (1 ≤ i → 1 ≤ t ∧ 2 ^ (t - 1) ≤ i) → 2 ^ t ≤ 2 * i := by
        intro t i hi h1
        obtain ⟨h3, h4⟩ := h1 hi
        have : 2 ^ t = 2 * 2 ^ (t - 1) := by rw [Nat.mul_comm, ← Nat.pow_succ, Nat.succ_eq_add_one, Nat.sub_add_cancel h3]
        omega
      rcases Nat.le_total s r with h | h
      · rw [Nat.max_eq_left h]
        by_cases hz : k = 0
        · rw [a0 hz]; omega
        · have := d (by omega) a2
          omega
      · rw [Nat.max_eq_right h]
        by_cases hz : j = 0
        · rw [b0 hz]; omega
        · have := d (by omega) b2
          omega
theorem long_vars : ∀ (n : Nat) (f g : Option (Fin 4)) (u : Fin 4), ((Fm.free (Fm.longT n f g)).testBit u.val = true → some u = f ∨ some u = g) ∧ ((Fm.vars (Fm.longT n f g)).testBit u.val = true → some u = f ∨ some u = g ∨ u.val < 3) := by
  intro n
  induction n using Nat.strongRecOn with
  | _ n ih =>
    intro f g u
    rw [Fm.longT]
    by_cases h0 : n = 0
    · rw [dif_pos h0]; exact ⟨fun h => by simp [Fm.free] at h, fun h => by simp [Fm.vars] at h⟩
    · rw [dif_neg h0]
      obtain ⟨v1, v2, v3⟩ := Fm.vN_ne f g
      generalize hv : Fm.vN f g = v at *
      have i1 := ih ((n - 1) / 2) (by omega) f (some v) u
      have i2 := ih (n - 1 - (n - 1) / 2) (by omega) (some v) g u
      generalize (n - 1) / 2 = k at *
      generalize n - 1 - k = j at *
      constructor
      · rw [Fm.free_qu, Fm.free_conj]
        simp only [Bool.and_eq_true, decide_eq_true_eq, List.any_append, Bool.or_eq_true]
        rintro ⟨h, hne⟩
        have hne' : u ≠ v := fun h => hne h.symm
        rcases h with ((h | h) | h) | h
        · cases f with
          | none => simp [Fm.fstL] at h
          | some x =>
            simp only [Fm.fstL, List.any_cons, List.any_nil, Bool.or_false, Fm.free_rel, Bool.or_eq_true, decide_eq_true_eq] at h
            rcases h with rfl | h
            · exact .inl rfl
            · exact absurd h.symm hne'
        · cases g with
          | none => simp [Fm.sndL] at h
          | some x =>
            simp only [Fm.sndL, List.any_cons, List.any_nil, Bool.or_false, Fm.free_rel, Bool.or_eq_true, decide_eq_true_eq] at h
            rcases h with h | rfl
            · exact absurd h.symm hne'
            · exact .inr rfl
        · split at h
          · simp at h
          · simp only [List.any_cons, List.any_nil, Bool.or_false] at h
            rcases i1.1 h with h | h
            · exact .inl h
            · exact absurd (Option.some.inj h) hne'
        · split at h
          · simp at h
          · simp only [List.any_cons, List.any_nil, Bool.or_false] at h
            rcases i2.1 h with h | h
            · exact absurd (Option.some.inj h) hne'
            · exact .inr h
      · show (1 <<< v.val ||| Fm.vars (Fm.conj _)).testBit u.val = true → _
        rw [Nat.testBit_or, Fm.bit_has, Fm.vars_conj]
        simp only [Bool.or_eq_true, decide_eq_true_eq, List.any_append]
        have hvu : v = u → u.val < 3 := fun h => h ▸ v3
        rintro (h | ((h | h) | h) | h)
        · exact .inr (.inr (hvu h))
        · cases f with
          | none => simp [Fm.fstL] at h
          | some x =>
            simp only [Fm.fstL, List.any_cons, List.any_nil, Bool.or_false, Fm.vars, Nat.testBit_or, Fm.bit_has, Bool.or_eq_true, decide_eq_true_eq] at h
            rcases h with rfl | h
            · exact .inl rfl
            · exact .inr (.inr (hvu h))
        · cases g with
          | none => simp [Fm.sndL] at h
          | some x =>
            simp only [Fm.sndL, List.any_cons, List.any_nil, Bool.or_false, Fm.vars, Nat.testBit_or, Fm.bit_has, Bool.or_eq_true, decide_eq_true_eq] at h
            rcases h with h | rfl
            · exact .inr (.inr (hvu h))
            · exact .inr (.inl rfl)
        · split at h
          · simp at h
          · simp only [List.any_cons, List.any_nil, Bool.or_false] at h
            rcases i1.2 h with h | h | h
            · exact .inl h
            · exact .inr (.inr (hvu (Option.some.inj h).symm))
            · exact .inr (.inr h)
        · split at h
          · simp at h
          · simp only [List.any_cons, List.any_nil, Bool.or_false] at h
            rcases i2.2 h with h | h | h
            · exact .inr (.inr (hvu (Option.some.inj h).symm))
            · exact .inr (.inl h)
            · exact .inr (.inr h)
theorem testBit_zero {a : Nat} (h : a < 16) (h' : ∀ u : Fin 4, a.testBit u.val = false) : a = 0 := by
  have : ∀ a : Fin 16, (∀ u : Fin 4, a.val.testBit u.val = false) → a.val = 0 := by decide
  exact this ⟨a, h⟩ h'
theorem long_free (n : Nat) : Fm.free (Fm.longT n none none) = 0 := by
  refine testBit_zero (Fm.free_lt _) fun u => ?_
  rw [← Bool.not_eq_true]
  intro h
  rcases (long_vars n none none u).1 h with h | h <;> cases h
theorem long_true (m n : Nat) (e : Fm.Env) : Fm.holds (Gs.ord m) (Fm.longT n none none) e = decide (n ≤ m) := by
  have := long_holds m n none none e (Nat.le_refl _)
  rw [Bool.eq_iff_iff, decide_eq_true_eq, this]
  rfl
end Go.Proofs.YtenjojakjdaamaaDoor
