/- The program's WordClasses. No condition. -/
import Derived.Test.YtagnikcnakdehaaDoorClass
namespace Go.Proofs.YtagnikcnakdehaaDoor
open Go.RowKit
set_option linter.unusedVariables false

theorem clsL_snoc (k : Nat) (L : List ByteArray) (u : ByteArray) : clsL k (L ++ [u]) = if (clsL k L).any (fun v => likeW k v u) then clsL k L else clsL k L ++ [u] := by
  simp [clsL, List.foldl_append]
theorem clsL_sub (k : Nat) : ∀ (n : Nat) (L : List ByteArray), L.length = n → ∀ x ∈ clsL k L, x ∈ L := by
  intro n
  induction n with
  | zero => intro L hL x hx; obtain rfl := List.eq_nil_of_length_eq_zero hL; exact hx
  | succ n ih =>
    intro L hL x hx
    rcases Gs.list_snoc L with rfl | ⟨L, u, rfl⟩
    · simp at hL
    · rw [clsL_snoc] at hx
      have h1 := ih L (by simpa using hL) x
      split at hx
      · exact List.mem_append.2 (.inl (h1 hx))
      · rcases List.mem_append.1 hx with hx | hx
        · exact List.mem_append.2 (.inl (h1 hx))
        · exact List.mem_append.2 (.inr hx)
theorem clsL_length (k : Nat) : ∀ (n : Nat) (L : List ByteArray), L.length = n → (clsL k L).length ≤ n := by
  intro n
  induction n with
  | zero => intro L hL; obtain rfl := List.eq_nil_of_length_eq_zero hL; simp [clsL]
  | succ n ih =>
    intro L hL
    rcases Gs.list_snoc L with rfl | ⟨L, u, rfl⟩
    · simp at hL
    · rw [clsL_snoc]
      have h1 := ih L (by simpa using hL)
      split
      · omega
      · simp; omega
theorem clsL_take (k : Nat) (L : List ByteArray) (i : Nat) (hi : i < L.length) : clsL k (L.take (i + 1)) = if (clsL k (L.take i)).any (fun v => likeW k v (L.getD i ByteArray.empty)) then clsL k (L.take i) else clsL k (L.take i) ++ [L.getD i ByteArray.empty] := by
  rw [List.take_succ_eq_append_getElem hi, clsL_snoc]
  simp [hi]
theorem firstL_empty (k : Nat) (L : List ByteArray) (u : ByteArray) (hL : ∀ x ∈ L, 1 ≤ x.size) : (firstL k L u).toList.isEmpty = !(L.any fun v => likeW k v u) := by
  unfold firstL
  cases h : L.find? (fun v => likeW k v u) with
  | none =>
    have h1 : (L.any fun v => likeW k v u) = false := by
      rw [← Bool.not_eq_true, List.any_eq_true]
      rintro ⟨x, hx, hp⟩
      have := List.find?_eq_none.1 h x hx
      exact this hp
    rw [h1, Option.getD_none, ByteArray.toList_eq]; rfl
  | some x =>
    have h1 := List.mem_of_find?_eq_some h
    have h2 := List.find?_some h
    have h3 : (L.any fun v => likeW k v u) = true := List.any_eq_true.2 ⟨x, h1, h2⟩
    rw [h3]
    have h4 := hL x h1
    simp only [Option.getD_some, Bool.not_true]
    rw [ByteArray.toList_eq]
    cases h5 : x.data.toList with
    | nil =>
      have h6 : x.data.toList.length = x.size := by simp
      rw [h5] at h6
      simp at h6
      omega
    | cons a l => rfl

/-- What the loop keeps. -/
structure Wc (w wr : World) (k : Nat) (W : List ByteArray) (i : Nat) (vo vw : Value) : Prop where
  out : OwnS w.heap.size wr vo (clsL k (W.take i))
  words : OwnS w.heap.size wr vw W
  ne : vo.ownBlock ≠ vw.ownBlock
  old : Below w.heap.size w wr
theorem Wc.below {w wr w' : World} {k : Nat} {W : List ByteArray} {i : Nat} {vo vw : Value} (h : Wc w wr k W i vo vw) (hb : Below wr.heap.size wr w') : Wc w w' k W i vo vw :=
  ⟨h.out.below hb, h.words.below hb, h.ne, h.old.trans (hb.mono h.old.size)⟩
theorem Wc.step {w wr w' : World} {k : Nat} {W : List ByteArray} {i : Nat} {vo vw vo' : Value} {o : Obj} {L : List ByteArray} (h : Wc w wr k W i vo vw) (hL : clsL k (W.take (i + 1)) = L) (hown : OwnS w.heap.size w' vo' L) (hg : (wr.alloc o).grownBy w' vo.ownBlock)
    (hat : vo'.ownBlock = vo.ownBlock ∨ ∃ k, vo'.ownBlock = some k ∧ (wr.alloc o).heap.size ≤ k) : Wc w w' k W (i + 1) vo' vw := by
  obtain ⟨k2, e2, _, l2⟩ := h.words.block
  have al : Below wr.heap.size wr (wr.alloc o) := (Below.refl _ _).alloc (Nat.le_refl _) _
  have hs : (wr.alloc o).heap.size = wr.heap.size + 1 := by simp
  have hw := h.old.size
  refine ⟨by rw [hL]; exact hown, (h.words.below al).grown hg (Ne.symm h.ne), ?_, ?_⟩
  · rcases hat with h1 | ⟨j, h1, h2⟩
    · rw [h1]; exact h.ne
    · rw [h1, e2]
      intro e
      have := Option.some.inj e
      omega
  · refine (h.old.alloc hw _).grown hg (by omega) fun j hj => ?_
    obtain ⟨k1, e1, l1, _⟩ := h.out.block
    rw [e1] at hj
    obtain rfl := Option.some.inj hj
    exact l1

set_option maxRecDepth 100000 in
set_option maxHeartbeats 1000000 in
theorem implClasses_yes (n k : Nat) (w : World) (hn : n ≤ 5) (hk : k ≤ 2) : Calls Tryd.prog 22 #[.int .i64 (n : Int), .int .i64 (k : Int)] w (NewTexts w (clsL k (upTo n))) := by
  have HU := Lib.hid (fun w => wordsUpTo_any n w (by omega))
  have HO0 : Hid (OwnS w.heap.size (w.alloc (.cells #[] 9)) (.slice (some ⟨w.heap.size, 0, none⟩) 0 0) []) := OwnS.lit0 _ w (Nat.le_refl _)
  have hul : (upTo n).length ≤ 62 := by
    have h1 := upTo_length n
    have h2 : 2 ^ (n + 1) ≤ 2 ^ 6 := Nat.pow_le_pow_right (by decide) (by omega)
    omega
  have HUS := Lib.hid (upTo_size n)
  obtain ⟨W, hW⟩ : ∃ W, upTo n = W := ⟨_, rfl⟩
  rw [hW] at HU hul HUS ⊢
  clear hW
  go_enter Tryd.func22, Tryd.ntmps22
  go_wp2_with fail
  refine (HU.out _).mono ?_; rintro e w2 ⟨vw, rfl, hw, hb⟩
  have HW0 : Hid (Wc w w2 k W 0 (.slice (some ⟨w.heap.size, 0, none⟩) 0 0) vw) := by
    obtain ⟨k2, e2, l2, _⟩ := hw.block
    have hs : (w.alloc (.cells #[] 9)).heap.size = w.heap.size + 1 := by simp
    have al : Below w.heap.size w (w.alloc (.cells #[] 9)) := (Below.refl _ _).alloc (Nat.le_refl _) _
    refine ⟨HO0.out.below hb, ⟨⟨hw.own.1, ?_⟩, hw.ne, by have := hb.size; omega⟩, ?_, al.trans (hb.mono (by omega))⟩
    · rcases hw.own.2 with h1 | ⟨g, cap, cur, h1, h2, h3⟩
      · exact .inl h1
      · exact .inr ⟨g, cap, cur, h1, by omega, h3⟩
    · rw [e2]
      intro e
      have e : w.heap.size = k2 := Option.some.inj e
      omega
  obtain ⟨g, cap, rfl, _, hg2, hc1, hc2, hcell⟩ := hw.cells
  unfold maxLen at hc2
  clear hw hb hcell
  go_wp2_with fail
  go_loopw [26, 5] (fun q vo wr => ∃ i : Nat, i ≤ W.length ∧ q = .int .i64 i ∧ Hid (Wc w wr k W i vo (.slice (some ⟨g, 0, none⟩) W.length cap))) (fun q _ _ => W.length - (intOf q).toNat)
  case atStart => exact ⟨0, by omega, rfl, HW0.out⟩
  case round =>
    obtain ⟨i, hi, rfl, HW⟩ := hrel
    by_cases hlt : i < W.length
    · obtain ⟨g2, cap2, hv2, _, _, _, _, hcell2⟩ := HW.out.words.cells
      have d1 : wr.cell? ⟨g, i, none⟩ = some (.string (W.getD i ByteArray.empty)) := by
        injection hv2 with h1 h2 h3
        injection h1 with h1
        injection h1 with h1
        subst h1
        exact hcell2 i hlt
      have hz := HUS.out (W.getD i ByteArray.empty) (by simp [hlt])
      have HT := Lib.hid (clsL_take k W i hlt)
      have hsub := clsL_sub k _ (W.take i) rfl
      have HF := Lib.hid (firstLike_any u5 (clsL k (W.take i)) (W.getD i ByteArray.empty) k wr HW.out.out.texts (fun x hx => by have := HUS.out x (List.mem_of_mem_take (hsub x hx)); omega) (by omega) (by omega) (by have := clsL_length k _ (W.take i) rfl; rw [List.length_take] at this; omega))
      have e1 := firstL_empty k (clsL k (W.take i)) (W.getD i ByteArray.empty) (fun x hx => (HUS.out x (List.mem_of_mem_take (hsub x hx))).1)
      have HLL : Hid ((clsL k (W.take i)).length + 1 ≤ 2000000) := by
        have := clsL_length k _ (W.take i) rfl
        rw [List.length_take] at this
        show _ ≤ _
        omega
      clear hv2 hcell2 hsub
      obtain ⟨x, hx⟩ : ∃ x, W.getD i ByteArray.empty = x := ⟨_, rfl⟩
      rw [hx] at d1 hz HT HF e1
      obtain ⟨f, hf⟩ : ∃ f, firstL k (clsL k (W.take i)) x = f := ⟨_, rfl⟩
      rw [hf] at HF e1
      obtain ⟨b, hb⟩ : ∃ b, ((clsL k (W.take i)).any fun v => likeW k v x) = b := ⟨_, rfl⟩
      rw [hb] at HT e1
      clear hx hf hb
      cases b
      · have HT2 : Hid (clsL k (W.take (i + 1)) = clsL k (W.take i) ++ [x]) := by show _ = _; rw [HT.out]; simp
        have e1 : f.toList.isEmpty = true := by simpa using e1
        have e2 : f.toList = [] := by simpa using e1
        go_wp2_with fail
        refine HF.out.mono ?_; rintro e w3 ⟨rfl, hb⟩
        have HW3 := Lib.hid (HW.out.below hb); clear hb
        go_wp2_with (first | (at_builtin; refine wpList_ownSAll (M := [x]) (HW3.out.out.below ((Below.refl _ _).alloc (Nat.le_refl _) _)) (TextsAt.one w3 x) HLL.out rfl (.tmp 35) (.tmp 37) rfl rfl rfl ?_; intro v' w' ho hg hat; have HW4 := Lib.hid (HW3.out.step HT2.out ho hg hat); clear ho hg hat) | fail)
        go_roundw
        case rel => exact ⟨i + 1, by omega, by go_num, HW4.out⟩
        case measure => simp [intOf]; omega
      · have HT2 : Hid (clsL k (W.take (i + 1)) = clsL k (W.take i)) := by show _ = _; rw [HT.out]; simp
        have e1 : f.toList.isEmpty = false := by simpa using e1
        have e2 : (!f.toList.isEmpty) = true := by simpa using e1
        have e3 : ¬ f.toList = [] := by simpa using e1
        go_wp2_with fail
        refine HF.out.mono ?_; rintro e w3 ⟨rfl, hb⟩
        have HW3 := Lib.hid (HW.out.below hb); clear hb
        go_wp2_with fail
        go_roundw
        case rel => exact ⟨i + 1, by omega, by go_num, ⟨by rw [HT2.out]; exact HW3.out.out, HW3.out.words, HW3.out.ne, HW3.out.old⟩⟩
        case measure => simp [intOf]; omega
    · have HE : Hid (OwnS w.heap.size wr u5 (clsL k W)) := by
        have h := HW.out.out
        rw [List.take_of_length_le (by omega)] at h
        exact h
      go_wp2_with fail
      go_ret
      exact ⟨_, rfl, HE.out, HW.out.old⟩
end Go.Proofs.YtagnikcnakdehaaDoor
