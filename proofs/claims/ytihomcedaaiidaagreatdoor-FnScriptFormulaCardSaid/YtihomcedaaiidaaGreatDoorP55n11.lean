/- Contracts of the program's functions and what they compute: part 11. Conditions: those that each theorem states. -/
import Derived.Test.YtihomcedaaiidaaGreatDoorP55n1
import Derived.Test.YtihomcedaaiidaaGreatDoorP55n9
import Derived.Test.YtihomcedaaiidaaGreatDoorP55n10
import Derived.Deep.RegionLaw
import Derived.Deep.DeepCutAuto
import Derived.Deep.CutBlock
namespace Go.Proofs.YtihomcedaaiidaaGreatDoor
open Go.RowKit
set_option linter.unusedVariables false
theorem index_cons (b : UInt8) (l : List UInt8) (c : UInt8) : decide (0 ≤ Lib.indexByte (b :: l) c) = (decide (b = c) || decide (0 ≤ Lib.indexByte l c)) := by
  have h : ∀ l : List UInt8, -1 ≤ Lib.indexByte l c := by
    intro l
    induction l with
    | nil => simp [Lib.indexByte]
    | cons b l ih => simp only [Lib.indexByte]; split; omega; split <;> omega
  have hl := h l
  rw [Bool.eq_iff_iff, Bool.or_eq_true, decide_eq_true_iff, decide_eq_true_iff, decide_eq_true_iff]
  simp only [Lib.indexByte]
  by_cases e : b = c
  · simp [e]
  · have e2 : (b == c) = false := by simpa using e
    rw [if_neg (by rw [e2]; simp)]
    by_cases e3 : Lib.indexByte l c = -1
    · rw [if_pos (by simpa using e3)]; simp [e]; omega
    · rw [if_neg (by simpa using e3)]; simp [e]; omega
theorem index_quant (c : UInt8) : decide (0 ≤ Lib.indexByte [65, 83, 50, 51, 52] c) = Fm.isQu c := by
  simp only [index_cons]
  unfold Fm.isQu Fm.quOf
  by_cases h1 : c = 65
  · subst h1; decide
  by_cases h2 : c = 83
  · subst h2; decide
  by_cases h3 : c = 50
  · subst h3; decide
  by_cases h4 : c = 51
  · subst h4; decide
  by_cases h5 : c = 52
  · subst h5; decide
  simp [Ne.symm h1, Ne.symm h2, Ne.symm h3, Ne.symm h4, Ne.symm h5, h1, h2, h3, h4, h5, Lib.indexByte]
theorem index_var (c : UInt8) (s : List UInt8) : decide (0 ≤ Lib.indexByte [97, 98, 99, 100] c) = (Fm.pvar (c :: s)).isSome := by
  simp only [index_cons]
  simp only [Fm.pvar]
  by_cases h1 : c = 97
  · subst h1; rfl
  by_cases h2 : c = 98
  · subst h2; rfl
  by_cases h3 : c = 99
  · subst h3; rfl
  by_cases h4 : c = 100
  · subst h4; rfl
  simp [Ne.symm h1, Ne.symm h2, Ne.symm h3, Ne.symm h4, h1, h2, h3, h4, Lib.indexByte]
/-- A node that is being made, with its parts, in memory that is new since w. -/
def NodeInv (w wr : World) (c : UInt8) (vs : List (Fin 4)) (ps : List Fm.T) (fr al : Nat) : Prop :=
  ∃ (G F : Nat → Prop) (qs : List Nat) (v u : Value), Nd G wr w.heap.size c vs qs fr al v u ∧ Sep w.heap.size v u ∧ (∀ b, G b → w.heap.size ≤ b ∧ b < wr.heap.size) ∧ Below w.heap.size w wr ∧ Trees F wr ps qs ∧ ∀ b, F b → ¬ G b ∧ w.heap.size ≤ b ∧ b < wr.heap.size
theorem NodeInv.new (w : World) (c : UInt8) : NodeInv w (w.alloc (.cells #[.int .u8 (c.toNat : Int), .slice none 0 0, .slice none 0 0, .int .i64 0, .int .i64 0] 60)) c [] [] 0 0 :=
  ⟨_, fun _ => False, [], _, _, Nd.new w c, Sep.nil _, fun b hb => by simp; omega, (Below.refl _ _).alloc (Nat.le_refl _) _, trivial, fun b hb => hb.elim⟩
theorem off_below {w wr w' : World} {G : Nat → Prop} (h : Below w.heap.size w wr) (hG : ∀ b, G b → w.heap.size ≤ b) (ho : Off G wr w') : Below w.heap.size w w' :=
  h.trans (ho.below h.size hG)
theorem setCell_off {G : Nat → Prop} {wr : World} {p : Nat} (i : Nat) (x : Value) (hG : G p) : Off G wr (wr.setCell ⟨p, i, none⟩ x) :=
  ⟨rfl, rfl, rfl, by simp [World.setCell], fun k hk hn => Below.heap_setCell _ _ _ _ (fun e => hn (by rw [e]; exact hG))⟩
section
variable {w wr : World} {c : UInt8} {vs : List (Fin 4)} {ps : List Fm.T} {fr al : Nat}
theorem NodeInv.below {w' : World} (h : NodeInv w wr c vs ps fr al) (hb : Below wr.heap.size wr w') : NodeInv w w' c vs ps fr al := by
  obtain ⟨G, F, qs, v, u, h1, h2, h3, h4, h5, h6⟩ := h
  refine ⟨G, F, qs, v, u, h1.kept (fun b _ hl => hb.block b hl) (fun _ h => h), h2, fun b hg => ⟨(h3 b hg).1, Nat.lt_of_lt_of_le (h3 b hg).2 hb.size⟩, h4.trans (hb.mono h4.size), h5.kept (fun b _ hl => hb.block b hl) (fun _ h => h), fun b hb' => ?_⟩
  obtain ⟨a1, a2, a3⟩ := h6 b hb'
  exact ⟨a1, a2, Nat.lt_of_lt_of_le a3 hb.size⟩
theorem NodeInv.drew (h : NodeInv w wr c vs ps fr al) : NodeInv w wr.drew c vs ps fr al := h.below ((Below.refl _ _).drew)
theorem NodeInv.old (h : NodeInv w wr c vs ps fr al) : Below w.heap.size w wr := by
  obtain ⟨G, F, qs, v, u, h1, h2, h3, h4, h5, h6⟩ := h
  exact h4
theorem NodeInv.setAll (h : NodeInv w wr c vs ps fr al) (al' : Nat) : NodeInv w (wr.setCell ⟨w.heap.size, 4, none⟩ (.int .i64 (al' : Int))) c vs ps fr al' := by
  obtain ⟨G, F, qs, v, u, h1, h2, h3, h4, h5, h6⟩ := h
  have ho := setCell_off (G := G) (wr := wr) 4 (.int .i64 (al' : Int)) h1.foot
  exact ⟨G, F, qs, v, u, h1.setAll h2 al', h2, fun b hg => ⟨(h3 b hg).1, Nat.lt_of_lt_of_le (h3 b hg).2 ho.size⟩, off_below h4 (fun b hg => (h3 b hg).1) ho, h5.off ho (fun b hb => (h6 b hb).1), fun b hb => ⟨(h6 b hb).1, (h6 b hb).2.1, Nat.lt_of_lt_of_le (h6 b hb).2.2 ho.size⟩⟩
theorem NodeInv.setFree (h : NodeInv w wr c vs ps fr al) (fr' : Nat) : NodeInv w (wr.setCell ⟨w.heap.size, 3, none⟩ (.int .i64 (fr' : Int))) c vs ps fr' al := by
  obtain ⟨G, F, qs, v, u, h1, h2, h3, h4, h5, h6⟩ := h
  have ho := setCell_off (G := G) (wr := wr) 3 (.int .i64 (fr' : Int)) h1.foot
  exact ⟨G, F, qs, v, u, h1.setFree h2 fr', h2, fun b hg => ⟨(h3 b hg).1, Nat.lt_of_lt_of_le (h3 b hg).2 ho.size⟩, off_below h4 (fun b hg => (h3 b hg).1) ho, h5.off ho (fun b hb => (h6 b hb).1), fun b hb => ⟨(h6 b hb).1, (h6 b hb).2.1, Nat.lt_of_lt_of_le (h6 b hb).2.2 ho.size⟩⟩
theorem NodeInv.addVar {G F : Nat → Prop} {qs : List Nat} {v u : Value} (h1 : Nd G wr w.heap.size c vs qs fr al v u) (h2 : Sep w.heap.size v u) (h3 : ∀ b, G b → w.heap.size ≤ b ∧ b < wr.heap.size) (h4 : Below w.heap.size w wr) (h5 : Trees F wr ps qs) (h6 : ∀ b, F b → ¬ G b ∧ w.heap.size ≤ b ∧ b < wr.heap.size)
    {w2 w3 : World} {x : Fin 4} {gg cap : Nat} (hw : Below wr.heap.size wr w2)
    (ho : w3.ownsRow 0 5 1 (.slice (some ⟨gg, 0, none⟩) (vs.length + 1) cap) (vs.length + 1) (vs.map vbV ++ [vbV x])) (hg : w2.grownBy w3 v.ownBlock) (ha : v.ownBlock = some gg ∨ gg = w2.heap.size) :
    NodeInv w (w3.setCell ⟨w.heap.size, 1, none⟩ (.slice (some ⟨gg, 0, none⟩) (vs.length + 1) cap)) c (vs ++ [x]) ps fr al := by
  obtain ⟨a1, a2, a3⟩ := h1.addVar h2 hw ho hg ha
  have hgg : gg < w3.heap.size := (ho.lt gg rfl).2
  have hs3 : ∀ (i : Nat) (x : Value), (w3.setCell ⟨w.heap.size, i, none⟩ x).heap.size = w3.heap.size := fun i x => by simp [World.setCell]
  have h3z : w2.heap.size ≤ w3.heap.size := hg.size
  have hwz := hw.size
  refine ⟨_, F, qs, _, u, a1, a2, fun b hb => ?_, off_below h4 (fun b hg => (h3 b hg).1) a3, h5.off a3 (fun b hb => (h6 b hb).1), fun b hb => ⟨fun hg => ?_, (h6 b hb).2.1, Nat.lt_of_lt_of_le (h6 b hb).2.2 a3.size⟩⟩
  · rw [hs3]
    rcases hb with hb | hb
    · have := h3 b hb; omega
    · have := h4.size; omega
  · rcases hg with hg | hg
    · exact (h6 b hb).1 hg
    · have := (h6 b hb).2.2; omega
theorem NodeInv.addPart {w0 : World} {G F : Nat → Prop} {qs : List Nat} {v u : Value} (h1 : Nd G wr w.heap.size c vs qs fr al v u) (h2 : Sep w.heap.size v u) (h3 : ∀ b, G b → w.heap.size ≤ b ∧ b < wr.heap.size) (h4 : Below w.heap.size w wr) (h5 : Trees F wr ps qs) (h6 : ∀ b, F b → ¬ G b ∧ w.heap.size ≤ b ∧ b < wr.heap.size)
    {f : Fm.T} {q : Nat} (hc : Tree (fun b => w0.heap.size ≤ b) wr f q) (h0 : w.heap.size ≤ w0.heap.size) (hG0 : ∀ b, G b → b < w0.heap.size)
    {w2 w3 : World} {gg cap : Nat} (hw : Below wr.heap.size wr w2)
    (ho : w3.ownsRow 0 51 1 (.slice (some ⟨gg, 0, none⟩) (qs.length + 1) cap) (qs.length + 1) (qs.map ptrV ++ [ptrV q])) (hg : w2.grownBy w3 u.ownBlock) (ha : u.ownBlock = some gg ∨ gg = w2.heap.size) :
    NodeInv w (w3.setCell ⟨w.heap.size, 2, none⟩ (.slice (some ⟨gg, 0, none⟩) (qs.length + 1) cap)) c vs (ps ++ [f]) fr al := by
  obtain ⟨a1, a2, a3⟩ := h1.addPart h2 hw ho hg ha
  have ht := hc.tight
  have hfar : ∀ b, (w0.heap.size ≤ b ∧ b < wr.heap.size) → ¬ G b := fun b hb hg => by have := hG0 b hg; omega
  have hgg : gg < w3.heap.size := (ho.lt gg rfl).2
  have hs3 : ∀ (i : Nat) (x : Value), (w3.setCell ⟨w.heap.size, i, none⟩ x).heap.size = w3.heap.size := fun i x => by simp [World.setCell]
  have h3z : w2.heap.size ≤ w3.heap.size := hg.size
  have hwz := hw.size
  refine ⟨_, fun b => F b ∨ (w0.heap.size ≤ b ∧ b < wr.heap.size), qs ++ [q], v, _, a1, a2, fun b hb => ?_, off_below h4 (fun b hg => (h3 b hg).1) a3, ?_, fun b hb => ?_⟩
  · rw [hs3]
    rcases hb with hb | hb
    · have := h3 b hb; omega
    · have := h4.size; omega
  · refine Trees.snoc ?_ ?_
    · exact (ht.off a3 hfar).mono fun b hb => .inr hb
    · exact (h5.off a3 (fun b hb => (h6 b hb).1)).mono fun b hb => .inl hb
  · have hz := a3.size
    rcases hb with hb | hb
    · refine ⟨fun hg => ?_, (h6 b hb).2.1, Nat.lt_of_lt_of_le (h6 b hb).2.2 hz⟩
      rcases hg with hg | hg
      · exact (h6 b hb).1 hg
      · have := (h6 b hb).2.2; omega
    · refine ⟨fun hg => ?_, by omega, by omega⟩
      rcases hg with hg | hg
      · exact hfar b hb hg
      · omega
theorem NodeInv.tree {φ : Fm.T} (h : NodeInv w wr φ.op φ.vs φ.ps (Fm.free φ) (Fm.vars φ)) : Tree (fun b => w.heap.size ≤ b) wr φ w.heap.size := by
  obtain ⟨G, F, qs, v, u, h1, h2, h3, h4, h5, h6⟩ := h
  exact Tree.of_node (h1.kept (fun _ _ _ => rfl) (fun b hg => (h3 b hg).1)) (h5.mono fun b hb => (h6 b hb).2.1)
end
/-- What parsePart leaves. -/
def ParseP (w : World) (res : Option (Fm.T × List UInt8)) (e : Ending) (w' : World) : Prop :=
  Below w.heap.size w w' ∧ ((res = none ∧ ∃ r : ByteArray, e = .returned (.tuple #[.pointer none, .string r])) ∨
    ∃ (φ : Fm.T) (r : ByteArray) (p : Nat), res = some (φ, r.data.toList) ∧ e = .returned (.tuple #[ptrV p, .string r]) ∧ Tree (fun b => w.heap.size ≤ b) w' φ p)
end Go.Proofs.YtihomcedaaiidaaGreatDoor
namespace Go.Proofs.YtihomcedaaiidaaGreatDoor
open Go.RowKit
set_option linter.unusedVariables false
theorem quant_any {F : Nat → Prop} {p : Nat} {op : UInt8} {vs : List (Fin 4)} {qs : List Nat} {fr al : Nat} {v u : Value} (w : World) (h : Nd F w p op vs qs fr al v u) :
    Calls Tryz.prog 67 #[ptrV p] w fun e w' => e = .returned (.bool (Fm.isQu op)) ∧ w = w' := by
  have hc := h.cells.1
  have HI := Lib.hid (fun w => indexByte_any ⟨#[65, 83, 50, 51, 52]⟩ (op.toNat : Int) w)
  have e0 : ((⟨#[65, 83, 50, 51, 52]⟩ : ByteArray).data.toList) = [65, 83, 50, 51, 52] := rfl
  have e1 : ((op.toNat : Int).toNat.toUInt8) = op := by simp
  rw [e0, e1] at HI
  have HQ := Lib.hid (index_quant op)
  generalize Lib.indexByte [65, 83, 50, 51, 52] op = P at *
  clear h e0 e1
  unfold ptrV
  go_enter Tryz.func67, Tryz.ntmps67
  go_wp2_with fail
  refine (HI.out _).mono ?_; rintro e w' ⟨rfl, rfl⟩
  go_wp2_with fail
  go_ret
  exact ⟨ret_bool HQ.out, rfl⟩
/-- A letter's number of variables and parts. -/
theorem shape_some {c : UInt8} {k : Nat × Nat} (h : Fm.shape c = some k) : c = 116 ∧ k = (0, 0) ∨ c = 102 ∧ k = (0, 0) ∨ c = 80 ∧ k = (1, 0) ∨ (∃ e : Bool, c = (if e then 69 else 61) ∧ k = (2, 0)) ∨ c = 33 ∧ k = (0, 1) ∨ (∃ o : Bool, c = (if o then 124 else 38) ∧ k = (0, 2)) ∨ ∃ q : Fm.Q, c = q.byte ∧ k = (1, 1) := by
  rcases char_cases c with rfl | rfl | rfl | ⟨e, rfl⟩ | rfl | ⟨o, rfl⟩ | ⟨q, rfl⟩ | ⟨h1, h2, h3, h4, h5, h6, h7, h8, h9, h10, h11, h12, h13⟩
  · exact .inl ⟨rfl, (Option.some.inj h).symm⟩
  · exact .inr (.inl ⟨rfl, (Option.some.inj h).symm⟩)
  · exact .inr (.inr (.inl ⟨rfl, (Option.some.inj h).symm⟩))
  · refine .inr (.inr (.inr (.inl ⟨e, rfl, ?_⟩)))
    cases e <;> exact (Option.some.inj h).symm
  · exact .inr (.inr (.inr (.inr (.inl ⟨rfl, (Option.some.inj h).symm⟩))))
  · refine .inr (.inr (.inr (.inr (.inr (.inl ⟨o, rfl, ?_⟩)))))
    cases o <;> exact (Option.some.inj h).symm
  · refine .inr (.inr (.inr (.inr (.inr (.inr ⟨q, rfl, ?_⟩)))))
    cases q <;> exact (Option.some.inj h).symm
  · rw [Fm.shape_qu h1 h2 h3 h4 h5 h6 h7 h8] at h
    simp only [Fm.quOf, if_neg h9, if_neg h10, if_neg h11, if_neg h12, if_neg h13] at h
    cases h
theorem parse_none {n : Nat} {c : UInt8} {s : List UInt8} (h : Fm.shape c = none) : Fm.parse (n + 1) (c :: s) = none := by
  rw [Fm.parse_go, h]; rfl
theorem ext1 (t : ByteArray) : (t.extract 1 t.size).data.toList = t.data.toList.drop 1 := by
  rw [ByteArray.data_extract, Array.toList_extract]
  simp [List.take_of_length_le]
theorem ext1_size (t : ByteArray) : (t.extract 1 t.size).size = t.size - 1 := by simp
/-- The first byte and the rest. -/
theorem text_cons {t : ByteArray} (h : 0 < t.size) : t.data.toList = t[0] :: t.data.toList.drop 1 ∧ t.toList.isEmpty = false ∧ t.extract 0 1 = ⟨#[t[0]]⟩ := by
  have hl : 0 < t.data.toList.length := by simpa using h
  have h1 := List.drop_eq_getElem_cons (i := 0) hl
  rw [List.drop_zero] at h1
  have h2 : t.data.toList = t[0] :: t.data.toList.drop 1 := h1
  refine ⟨h2, ?_, ?_⟩
  · rw [Lib.toList_data, h2]; rfl
  · apply ByteArray.ext
    apply Array.ext'
    rw [ByteArray.data_extract, Array.toList_extract, h2]
    rfl
theorem contains_var (c : UInt8) (s : List UInt8) (w : World) :
    Calls Tryz.prog 74 #[.string ⟨#[97, 98, 99, 100]⟩, .string ⟨#[c]⟩] w fun e w' => e = .returned (.bool (Fm.pvar (c :: s)).isSome) ∧ w = w' := by
  rw [← index_var c s]
  exact (contains_one ⟨#[97, 98, 99, 100]⟩ c w).mono fun e w' ⟨h1, h2⟩ => ⟨h1, h2.symm⟩
theorem vb_nat (x : Fin 4) : ((Fm.vb x).toNat : Int) = 97 + (x.val : Int) := by revert x; decide
theorem vb_sub (x : Fin 4) : IntKind.u8.wrap (((Fm.vb x).toNat : Int) - 97) = (x.val : Int) := by revert x; decide +kernel
theorem vb_sub2 (x : Fin 4) : IntKind.u8.wrap (((97 + x.val : Nat) : Int) - 97) = (x.val : Int) := by revert x; decide +kernel
theorem info_u8 : (Tryz.prog.info? 5).map (fun i => (i.zero, i.size, i.bytes)) = some (some (.int .u8 0), 1, 1) := by kernel_rfl
theorem info_ptr : (Tryz.prog.info? 51).map (fun i => (i.zero, i.size, i.bytes)) = some (some (.pointer none), 1, 8) := by kernel_rfl
/-- What parsePart does with texts of at most so many bytes. -/
def ParseOK (n : Nat) : Prop := ∀ (s : ByteArray) (w : World), s.size ≤ n → s.size ≤ 1000000 → Calls Tryz.prog 56 #[.string s] w (ParseP w (Fm.parse s.size s.data.toList))
set_option maxRecDepth 100000 in
set_option maxHeartbeats 2000000 in
theorem parsePart_succ (n : Nat) (IH : Hid (ParseOK n)) : ParseOK (n + 1) := by
  intro s w hn hm
  by_cases h0 : s = ByteArray.empty
  · subst h0
    have HP : Hid (ParseP w (Fm.parse ByteArray.empty.size ByteArray.empty.data.toList) (.returned (.tuple #[.pointer none, .string ByteArray.empty])) w) := ⟨Below.refl _ _, .inl ⟨rfl, _, rfl⟩⟩
    go_enter Tryz.func56, Tryz.ntmps56
    go_wp2_with fail
    go_ret2
    exact HP.out
  · have hpos : 0 < s.size := by
      rcases Nat.eq_zero_or_pos s.size with h | h
      · exact absurd (by simpa using h) h0
      · exact h
    obtain ⟨L, hL⟩ : ∃ L, s.data.toList = s[0] :: L := by
      have hl : 0 < s.data.toList.length := by simpa using hpos
      have h1 := List.drop_eq_getElem_cons (i := 0) hl
      rw [List.drop_zero] at h1
      exact ⟨_, h1⟩
    have hz : s.size = L.length + 1 := by
      have := congrArg List.length hL
      simpa using this
    have hne : s.toList.isEmpty = false := by
      rw [Lib.toList_data, hL]; rfl
    obtain ⟨c, hc⟩ : ∃ c, s[0] = c := ⟨_, rfl⟩
    rw [hc] at hL
    cases hsh : Fm.shape c with
    | none =>
      have HP : Hid (ParseP w (Fm.parse s.size s.data.toList) (.returned (.tuple #[.pointer none, .string s])) (w.alloc (.cells #[.int .u8 (c.toNat : Int), .slice none 0 0, .slice none 0 0, .int .i64 0, .int .i64 0] 60))) := ⟨(Below.refl _ _).alloc (Nat.le_refl _) _, .inl ⟨by rw [hL, hz]; exact parse_none hsh, _, rfl⟩⟩
      obtain ⟨RES, hres⟩ : ∃ r, Fm.parse s.size s.data.toList = r := ⟨_, rfl⟩
      rw [hres] at HP ⊢
      have hno : c ≠ 116 ∧ c ≠ 102 ∧ c ≠ 80 ∧ c ≠ 61 ∧ c ≠ 69 ∧ c ≠ 33 ∧ c ≠ 38 ∧ c ≠ 124 ∧ c ≠ 65 ∧ c ≠ 83 ∧ c ≠ 50 ∧ c ≠ 51 ∧ c ≠ 52 := by
        refine ⟨?_, ?_, ?_, ?_, ?_, ?_, ?_, ?_, ?_, ?_, ?_, ?_, ?_⟩ <;> (rintro rfl; cases hsh)
      obtain ⟨h1, h2, h3, h4, h5, h6, h7, h8, h9, h10, h11, h12, h13⟩ := hno
      have e1 := byte_no (n := 116) (by decide) h1
      have e2 := byte_no (n := 102) (by decide) h2
      have e3 := byte_no (n := 80) (by decide) h3
      have e4 := byte_no (n := 61) (by decide) h4
      have e5 := byte_no (n := 69) (by decide) h5
      have e6 := byte_no (n := 33) (by decide) h6
      have e7 := byte_no (n := 38) (by decide) h7
      have e8 := byte_no (n := 124) (by decide) h8
      have e9 := byte_no (n := 65) (by decide) h9
      have e10 := byte_no (n := 83) (by decide) h10
      have e11 := byte_no (n := 50) (by decide) h11
      have e12 := byte_no (n := 51) (by decide) h12
      have e13 := byte_no (n := 52) (by decide) h13
      clear h1 h2 h3 h4 h5 h6 h7 h8 h9 h10 h11 h12 h13 hsh hres hL hz h0
      go_enter Tryz.func56, Tryz.ntmps56
      go_wp2_with fail
      go_ret2
      exact HP.out
    | some k =>
      obtain ⟨nv, np⟩ := k
      have HRES : Hid (Fm.parse s.size s.data.toList = Fm.goV L.length c np nv [] L) := by
        show _ = _
        rw [hL, hz, Fm.parse_go, hsh]; rfl
      obtain ⟨RES, hres⟩ : ∃ r, Fm.parse s.size s.data.toList = r := ⟨_, rfl⟩
      rw [hres] at HRES ⊢
      have HSS := Lib.hid hsh
      have HSH := Lib.hid (shape_some hsh)
      have hle := Fm.shape_le hsh
      have HI0 := Lib.hid (NodeInv.new w c)
      have HL := Lib.hid hL
      have HZ := Lib.hid hz
      clear hres hsh hL hz h0
      go_enter Tryz.func56, Tryz.ntmps56
      go_upto_block 0 with fail
      go_cut [5, 6] (fun a b wx => a = .int .i64 nv ∧ b = .int .i64 np ∧ wx = w.alloc (.cells #[.int .u8 (c.toNat : Int), .slice none 0 0, .slice none 0 0, .int .i64 0, .int .i64 0] 60))
      case first =>
        rcases HSH.out with ⟨rfl, h2⟩ | ⟨rfl, h2⟩ | ⟨rfl, h2⟩ | ⟨e, rfl, h2⟩ | ⟨rfl, h2⟩ | ⟨o, rfl, h2⟩ | ⟨q, rfl, h2⟩
        · cases h2
          go_wp2_with fail
          go_meet
          exact ⟨rfl, rfl, rfl⟩
        · cases h2
          go_wp2_with fail
          go_meet
          exact ⟨rfl, rfl, rfl⟩
        · cases h2
          go_wp2_with fail
          go_meet
          exact ⟨rfl, rfl, rfl⟩
        · cases h2
          cases e
          all_goals
            go_wp2_with fail
            go_meet
            exact ⟨rfl, rfl, rfl⟩
        · cases h2
          go_wp2_with fail
          go_meet
          exact ⟨rfl, rfl, rfl⟩
        · cases h2
          cases o
          all_goals
            go_wp2_with fail
            go_meet
            exact ⟨rfl, rfl, rfl⟩
        · cases h2
          cases q
          all_goals
            simp only [Fm.Q.byte] at hc
            go_wp2_with fail
            go_meet
            exact ⟨rfl, rfl, rfl⟩
      case rest =>
        obtain ⟨rfl, rfl, rfl⟩ := hcut
        have hx := ext1 s
        have hxz := ext1_size s
        have hle1 : nv ≤ 2 := hle.1
        have hle2 : np ≤ 2 := hle.2
        have HV0 : Hid (Fm.goV L.length c np (nv - 0) [] (s.extract 1 s.size).data.toList = RES) := by
          show _ = _
          rw [hx, HL.out, HRES.out]; rfl
        have hzz := HZ.out
        have hz1 : (s.extract 1 s.size).size ≤ L.length := by omega
        have hLn : L.length ≤ n := by omega
        have hLm : L.length ≤ 1000000 := by omega
        clear hzz
        clear HRES hx hxz
        go_wp2_with fail
        go_loopw [0, 41] (fun s0 i wr => ∃ (j : Nat) (t : ByteArray) (vs : List (Fin 4)), j ≤ nv ∧ s0 = .string t ∧ i = .int .i64 j ∧ t.size ≤ L.length ∧ Hid (vs.length = j) ∧ Hid (Fm.goV L.length c np (nv - j) vs t.data.toList = RES) ∧ Hid (NodeInv w wr c vs [] 0 (Fm.orV vs))) (fun _ i _ => nv - (intOf i).toNat)
        case atStart => exact ⟨0, _, [], by omega, rfl, rfl, hz1, rfl, HV0.out, HI0.out⟩
        case round =>
          obtain ⟨j, t, vs, hj, rfl, rfl, ht, HVL, HGO, HN⟩ := hrel
          by_cases hlt : j < nv
          · by_cases ht0 : t = ByteArray.empty
            · subst ht0
              have HR : Hid (RES = none) := by
                show _ = _
                rw [← HGO.out, show nv - j = (nv - j - 1) + 1 by omega]; rfl
              have HP : Hid (ParseP w RES (.returned (.tuple #[.pointer none, .string ByteArray.empty])) wr) := ⟨HN.out.old, .inl ⟨HR.out, _, rfl⟩⟩
              go_wp2_with fail
              go_ret2
              exact HP.out
            · have hp : 0 < t.size := by
                rcases Nat.eq_zero_or_pos t.size with h | h
                · exact absurd (by simpa using h) ht0
                · exact h
              obtain ⟨e1, e2, e3⟩ := text_cons hp
              have hpI : (0 : Int) < (t.size : Int) := by omega
              clear ht0
              have HC := Lib.hid (fun w => contains_var t[0] (t.data.toList.drop 1) w)
              have HGO2 : Hid (RES = (Fm.pvar (t[0] :: t.data.toList.drop 1)).bind fun p => Fm.goV L.length c np (nv - j - 1) (vs ++ [p.1]) p.2) := by
                show _ = _
                rw [← HGO.out, show nv - j = (nv - j - 1) + 1 by omega, e1]; rfl
              obtain ⟨d, hd⟩ : ∃ d, t[0] = d := ⟨_, rfl⟩
              obtain ⟨T, hT⟩ : ∃ T, t.data.toList.drop 1 = T := ⟨_, rfl⟩
              rw [hd] at e3 HC
              rw [hT] at HC
              rw [hd, hT] at HGO2
              have HT := Lib.hid hT
              clear e1 hT HGO
              cases hpv : Fm.pvar (d :: T) with
              | none =>
                have HP : Hid (∀ t, ParseP w RES (.returned (.tuple #[.pointer none, .string t])) wr) := fun t => ⟨HN.out.old, .inl ⟨by rw [HGO2.out, hpv]; rfl, _, rfl⟩⟩
                rw [hpv] at HC
                clear hpv HGO2
                go_wp2_with fail
                refine (HC.out _).mono ?_; rintro e w' ⟨rfl, rfl⟩
                go_wp2_with fail
                go_ret2
                exact HP.out _
              | some q =>
                obtain ⟨x, r⟩ := q
                have h5 := Fm.pvar_some hpv
                obtain ⟨rfl, rfl⟩ : d = Fm.vb x ∧ T = r := by injection h5 with a b; exact ⟨a, b⟩
                have HG3 : Hid (Fm.goV L.length c np (nv - (j + 1)) (vs ++ [x]) (t.extract 1 t.size).data.toList = RES) := by
                  show _ = _
                  rw [HGO2.out, hpv, ext1, HT.out, show nv - (j + 1) = nv - j - 1 by omega]; rfl
                rw [hpv] at HC
                clear hpv HGO2 h5
                go_wp2_with fail
                refine (HC.out _).mono ?_; rintro e w' ⟨rfl, rfl⟩
                go_wp2_with fail
                go_cut [] (fun wx => NodeInv w wx c (vs ++ [x]) [] 0 (Fm.orV vs))
                case first =>
                  obtain ⟨G, F, qs, v, u, n1, n2, n3, n4, n5, n6⟩ := HN.out
                  obtain ⟨c0, c1, c2, c3, c4, f1, f2, f3, f4⟩ := n1.cells
                  have hvl := n1.vars.lt
                  have hpl := n1.lt
                  have hnv := n2.nv
                  have HOWN : Hid (wr.ownsRow 0 5 1 v j (vs.map vbV)) := by
                    have h := n1.vars.own
                    rw [List.length_map, HVL.out] at h
                    exact h
                  have KS : Hid (∀ (w' : World), (∀ b, b < wr.heap.size → v.ownBlock ≠ some b → w'.heap[b]? = wr.heap[b]?) → (w'.cell? ⟨w.heap.size, 1, none⟩ = some v ∧ w'.frozen? ⟨w.heap.size, 1, none⟩ = false)) := fun w' hk =>
                    ⟨(World.cell?_of_block (w := wr) (a := ⟨w.heap.size, 1, none⟩) (hk _ hpl hnv)).trans c1, (World.frozen?_of_block (w := wr) (a := ⟨w.heap.size, 1, none⟩) (hk _ hpl hnv)).trans f1⟩
                  have HD : Hid (Value.int .u8 ((Fm.vb x).toNat : Int) = vbV x) := by
                    show _ = _
                    unfold vbV
                    rw [vb_nat]; rfl
                  have N1 := Lib.hid n1; have N2 := Lib.hid n2; have N3 := Lib.hid n3; have N4 := Lib.hid n4; have N5 := Lib.hid n5; have N6 := Lib.hid n6
                  have hHE : Hid (j + 1 ≤ maxLen) := by show _ ≤ _; unfold maxLen; omega
                  have hHF : Hid ((j + 1) * 1 ≤ 140737488355328) := by show _ ≤ _; omega
                  obtain ⟨i0, hi0, hi1, hi2, hi3⟩ := info_parts info_u8
                  have HI := Lib.hid (And.intro hi0 (And.intro hi1 (And.intro hi2 hi3)))
                  have hvb := (Fm.vb x).toNat_lt
                  clear hi0 hi1 hi2 hi3 n1 n2 n3 n4 n5 n6 hvl hnv HN c0 c2 c3 c4 f2 f3 f4
                  go_region_law ((refine step_append_lies (w := wr.drew.alloc (.cells #[.int .u8 ((Fm.vb x).toNat : Int)] 5)) rfl (.tmp 56) (.tmp 59) _ rfl 0 5 i0 _ 1 1 Tryz.underlying22 HI.out.1 HI.out.2.1 HI.out.2.2.1 HI.out.2.2.2 rfl (by omega) v j (vs.map vbV) rfl (HOWN.out.drew.alloc _) ⟨wr.heap.size, 0, none⟩ 1 1 [.int .u8 ((Fm.vb x).toNat : Int)] rfl rfl (World.news_of_block (cs := #[.int .u8 ((Fm.vb x).toNat : Int)]) (t := 5) (fr := (0, 0)) (heap_alloc_new wr.drew _)) (by simp [Value.oneCell']) (by omega) hHE.out hHF.out (Nat.zero_le _) (wr.heap.size + 1) (by simp) ?_; intro gg gcap w3 hown3 hgrow hat hlt3; have K3 := Lib.hid (KS.out w3 (fun b hb hne => (hgrow.block b (by simp; omega) (fun e => hne e.symm)).trans (by exact Below.heap_alloc wr.drew _ _ hb))); have k1 := K3.out.1; have k2 := K3.out.2; have HO3 := Lib.hid hown3; have HG4 := Lib.hid hgrow; have HA3 := Lib.hid hat; clear hown3 hgrow hat))
                  all_goals
                    have HNN := Lib.hid (NodeInv.addVar N1.out N2.out N3.out N4.out N5.out N6.out (w2 := wr.drew.alloc (.cells #[.int .u8 ((Fm.vb x).toNat : Int)] 5)) (w3 := w3) (x := x) (gg := gg) (cap := gcap) ((Below.refl _ _).drew.alloc (Nat.le_refl _) _) (by rw [HVL.out, ← HD.out]; exact HO3.out) HG4.out (by simpa using HA3.out))
                    rw [HVL.out] at HNN
                    go_wp2_with fail
                    go_meet
                    exact HNN.out
                case rest =>
                  have HN1 := Lib.hid hcut; clear hcut HN
                  go_upto_region 31 with fail
                  go_cut [] (fun wx => NodeInv w wx c (vs ++ [x]) [] 0 (Fm.orV (vs ++ [x])))
                  case first =>
                    have h31 := HN1.out
                    have HS := Lib.hid (h31.setAll (Fm.orV (vs ++ [x])))
                    obtain ⟨G, F, qs, v, u, n1, n2, n3, n4, n5, n6⟩ := h31
                    obtain ⟨c0, c1, c2, c3, c4, f1, f2, f3, f4⟩ := n1.cells
                    have g1 := vb_sub x
                    have g2 := shl_i64 x
                    have g3 : bits .or .i64 ((Fm.orV vs : Nat) : Int) ((1 <<< x.val : Nat) : Int) = ((Fm.orV (vs ++ [x]) : Nat) : Int) := by
                      rw [or_i64 _ _ (Fm.orV_lt vs) (Fm.bit_lt x), Fm.orV_snoc]
                    have g4 : (0 : Int) ≤ (x.val : Int) ∧ (x.val : Int) < 4 := by have := x.isLt; omega
                    generalize (1 <<< x.val) = A at *
                    generalize Fm.orV (vs ++ [x]) = B at *
                    clear n1 n2 n3 n4 n5 n6 c0 c1 c2 c3 f1 f2 f3
                    go_region
                    all_goals
                      go_wp2_with fail
                      go_meet
                      exact HS.out.drew
                  case rest =>
                    have HN2 := Lib.hid hcut; clear hcut HN1
                    have hz3 := ext1_size t
                    have hz4 : (t.extract 1 t.size).size ≤ L.length := by omega
                    clear hz3
                    go_wp2_with fail
                    go_roundw
                    case rel => exact ⟨j + 1, _, vs ++ [x], by omega, rfl, by go_num, hz4, by rw [List.length_append, HVL.out]; rfl, HG3.out, HN2.out⟩
                    case measure => simp [intOf]; omega
          · have hjn : j = nv := by omega
            subst hjn
            have HGP : Hid (Fm.goP L.length c np vs [] t.data.toList = RES) := by
              have h := HGO.out
              rw [Nat.sub_self] at h
              exact h
            have HNA := Lib.hid (HN.out.setFree (Fm.orV vs))
            have h34 := HN.out
            obtain ⟨G, F, qs, v, u, n1, n2, n3, n4, n5, n6⟩ := h34
            obtain ⟨c0, c1, c2, c3, c4, f1, f2, f3, f4⟩ := n1.cells
            clear n1 n2 n3 n4 n5 n6 c0 c1 c2 f1 f2 f4 HN HGO
            generalize hOV : Fm.orV vs = OV at *
            have HOV := Lib.hid hOV
            clear hOV
            obtain ⟨FR, hFR⟩ : ∃ FR, (if np = 0 then OV else 0) = FR := ⟨_, rfl⟩
            have HFR := Lib.hid hFR
            clear hFR
            have HX : Hid (∃ W, (NodeInv w W c vs [] FR OV ∧ (np = 0 → W = wr.setCell ⟨w.heap.size, 3, none⟩ (.int .i64 (OV : Int))) ∧ (np ≠ 0 → W = (wr.setCell ⟨w.heap.size, 3, none⟩ (.int .i64 (OV : Int))).setCell ⟨w.heap.size, 3, none⟩ (.int .i64 0)))) := by
              by_cases hnp : np = 0
              · refine ⟨_, ?_, fun _ => rfl, fun h => absurd hnp h⟩
                rw [← HFR.out, if_pos hnp]
                exact HNA.out
              · refine ⟨_, ?_, fun h => absurd h hnp, fun _ => rfl⟩
                rw [← HFR.out, if_neg hnp]
                exact HNA.out.setFree 0
            obtain ⟨W, hW1, hW2, hW3⟩ := HX.out
            have HW1 := Lib.hid hW1
            have HQ := Lib.hid (fun W (h : NodeInv w W c vs [] FR OV) => h.old)
            clear hW1 HX
            have h36 := HNA.out
            obtain ⟨G, F, qs, v, u, n1, n2, n3, n4, n5, n6⟩ := h36
            obtain ⟨d0, d1, d2, d3, d4, k1, k2, k3, k4⟩ := n1.cells
            clear n1 n2 n3 n4 n5 n6 d0 d1 d2 d4 k1 k2 k4 HNA
            by_cases hnp : np = 0
            · have HWW := Lib.hid (hW2 hnp)
              have HNP := Lib.hid hnp
              have hnpI : ¬ (0 : Int) < (np : Int) := by omega
              have hnpN : ¬ 0 < np := by omega
              clear hW2 hW3 hnp
              go_wp2_with fail
              rw [← HWW.out]
              clear HWW f3 c3 c4 d3 k3
              have HNQ : Hid (Fm.isQu c = false) := by
                rcases HSH.out with ⟨rfl, h2⟩ | ⟨rfl, h2⟩ | ⟨rfl, h2⟩ | ⟨e, rfl, h2⟩ | ⟨rfl, h2⟩ | ⟨o, rfl, h2⟩ | ⟨q, rfl, h2⟩
                · rfl
                · rfl
                · rfl
                · cases e <;> rfl
                · rfl
                · cases o <;> rfl
                · have h3 := congrArg Prod.snd h2
                  have h4 := HNP.out
                  simp at h3
                  omega
              have HNF : Hid (NodeInv w W c vs [] OV OV) := by
                have h := HW1.out
                rw [← HFR.out, if_pos HNP.out] at h
                exact h
              have HRS : Hid (RES = some (Fm.build c vs [], t.data.toList)) := by
                show _ = _
                rw [← HGP.out, HNP.out]; rfl
              have HSP : Hid (Fm.shape c = some (vs.length, ([] : List Fm.T).length)) := by
                show _ = _
                rw [HSS.out, HVL.out, HNP.out]; rfl
              go_loopw [0, 90, 7, 8] (fun s0 i _ _ wr => s0 = .string t ∧ i = .int .i64 0 ∧ Hid (NodeInv w wr c vs [] OV OV)) (fun _ _ _ _ _ => 0)
              case atStart => exact ⟨rfl, rfl, HNF.out⟩
              case round =>
                obtain ⟨rfl, rfl, HN⟩ := hrel
                obtain ⟨G, F, qs, v, u, n1, n2, n3, n4, n5, n6⟩ := HN.out
                have HQU := Lib.hid (quant_any wr n1)
                rw [HNQ.out] at HQU
                unfold ptrV at HQU
                have HP : Hid (ParseP w RES (.returned (.tuple #[.pointer (some ⟨w.heap.size, 0, none⟩), .string t])) wr) := by
                  refine ⟨HN.out.old, .inr ⟨Fm.build c vs [], t, w.heap.size, HRS.out, rfl, ?_⟩⟩
                  obtain ⟨b1, b2, b3, b4, b5⟩ := Fm.build_node HSP.out
                  refine NodeInv.tree ?_
                  rw [b1, b2, b3, b4, b5]
                  have e : Fm.orA (Fm.orV vs) [] = Fm.orV vs := rfl
                  rw [e, HOV.out]
                  exact HN.out
                clear n1 n2 n3 n4 n5 n6
                go_wp2_with fail
                refine HQU.out.mono ?_; rintro e w' ⟨rfl, rfl⟩
                go_wp2_with fail
                go_ret2
                exact HP.out
            · have HWW := Lib.hid (hW3 hnp)
              have HNP := Lib.hid hnp
              have hnpI : (0 : Int) < (np : Int) := by omega
              have hnpN : 0 < np := by omega
              clear hW2 hW3 hnp
              go_wp2_with fail
              rw [← HWW.out]
              clear HWW f3 c3 c4 d3 k3
              go_loopw [0, 90, 7, 8] (fun s0 i _ _ wr => ∃ (m : Nat) (t : ByteArray) (ps : List Fm.T), m ≤ np ∧ s0 = .string t ∧ i = .int .i64 m ∧ t.size ≤ L.length ∧ Hid (ps.length = m) ∧ Hid (Fm.goP L.length c (np - m) vs ps t.data.toList = RES) ∧ Hid (NodeInv w wr c vs ps (Fm.orF ps) (Fm.orA OV ps))) (fun _ i _ _ _ => np - (intOf i).toNat)
              case atStart =>
                refine ⟨0, t, [], by omega, rfl, rfl, ht, rfl, HGP.out, ?_⟩
                have h := HW1.out
                rw [← HFR.out, if_neg HNP.out] at h
                exact h
              case round =>
                obtain ⟨m, t, ps, hm, rfl, rfl, ht, HPL, HGO, HN⟩ := hrel
                by_cases hlt : m < np
                · have hne : ¬ np = 0 := by omega
                  have HN1 := HN
                  have HGO2 : Hid (RES = (Fm.parse t.size t.data.toList).bind fun p => Fm.goP L.length c (np - (m + 1)) vs (ps ++ [p.1]) p.2) := by
                    show _ = _
                    rw [← HGO.out, show np - m = (np - (m + 1)) + 1 by omega, Fm.parse_fuel (n := t.size) (m := L.length) (by simp) (by simpa using ht)]; rfl
                  clear HN HGO
                  have HOLD := Lib.hid HN1.out.old
                  go_wp2_with fail
                  refine (IH.out t _ (by omega) (by omega)).mono ?_; rintro e w1 ⟨hb, hres⟩
                  have HN2 := Lib.hid (HN1.out.below hb)
                  have HB := Lib.hid hb
                  clear hb
                  rcases hres with ⟨hnone, r, rfl⟩ | ⟨f, r, q, hsome, rfl, htree⟩
                  · have HP : Hid (ParseP w RES (.returned (.tuple #[.pointer none, .string r])) w1) := ⟨HN2.out.old, .inl ⟨by rw [HGO2.out, hnone]; rfl, _, rfl⟩⟩
                    clear hnone
                    go_wp2_with fail
                    go_ret2
                    exact HP.out
                  · have HG3 : Hid (Fm.goP L.length c (np - (m + 1)) vs (ps ++ [f]) r.data.toList = RES) := by
                      show _ = _
                      rw [HGO2.out, hsome]; rfl
                    have hrl := Fm.parse_lt hsome
                    have hr : r.size ≤ L.length := by
                      simp at hrl
                      omega
                    have HT := Lib.hid htree
                    clear hsome htree HGO2 hrl
                    unfold ptrV
                    go_upto_region 42 with fail
                    go_cut [] (fun wx => NodeInv w wx c vs (ps ++ [f]) (Fm.orF ps) (Fm.orA OV ps) ∧ wx.cell? ⟨q, 3, none⟩ = some (.int .i64 (Fm.free f : Int)) ∧ wx.cell? ⟨q, 4, none⟩ = some (.int .i64 (Fm.vars f : Int)) ∧ w.heap.size < q)
                    case first =>
                      obtain ⟨G, F, qs, v, u, n1, n2, n3, n4, n5, n6⟩ := HN1.out
                      have m1 := n1.kept (F' := G) (w' := w1) (fun b _ hl => HB.out.block b hl) (fun _ h => h)
                      have m5 := n5.kept (F' := F) (w' := w1) (fun b _ hl => HB.out.block b hl) (fun _ h => h)
                      have m6 : ∀ b, F b → ¬ G b ∧ w.heap.size ≤ b ∧ b < w1.heap.size := fun b hb => ⟨(n6 b hb).1, (n6 b hb).2.1, Nat.lt_of_lt_of_le (n6 b hb).2.2 HB.out.size⟩
                      have m4 : Below w.heap.size w w1 := n4.trans (HB.out.mono n4.size)
                      have m3 : ∀ b, G b → w.heap.size ≤ b ∧ b < w1.heap.size := fun b hb => ⟨(n3 b hb).1, Nat.lt_of_lt_of_le (n3 b hb).2 HB.out.size⟩
                      obtain ⟨c0, c1, c2, c3, c4, f1, f2, f3, f4⟩ := m1.cells
                      have hpl := m1.lt
                      have hnu := n2.nu
                      have HOWN : Hid (w1.ownsRow 0 51 1 u qs.length (qs.map ptrV)) := by
                        have h := m1.parts.own
                        rw [List.length_map] at h
                        exact h
                      have hql : qs.length = m := by rw [← n5.length]; exact HPL.out
                      have KS : Hid (∀ (w' : World), (∀ b, b < w1.heap.size → u.ownBlock ≠ some b → w'.heap[b]? = w1.heap[b]?) → (w'.cell? ⟨w.heap.size, 2, none⟩ = some u ∧ w'.frozen? ⟨w.heap.size, 2, none⟩ = false)) := fun w' hk =>
                        ⟨(World.cell?_of_block (w := w1) (a := ⟨w.heap.size, 2, none⟩) (hk _ hpl hnu)).trans c2, (World.frozen?_of_block (w := w1) (a := ⟨w.heap.size, 2, none⟩) (hk _ hpl hnu)).trans f2⟩
                      obtain ⟨tv, tu, tqs, tn, _⟩ := HT.out.node
                      have tcells := tn.cells
                      have tfoot := tn.foot
                      have N3 := Lib.hid n3; have N4 := Lib.hid n4
                      have M1 := Lib.hid m1; have N2 := Lib.hid n2; have M3 := Lib.hid m3; have M4 := Lib.hid m4; have M5 := Lib.hid m5; have M6 := Lib.hid m6
                      have TC := Lib.hid tcells; have TF := Lib.hid tfoot; have TL := Lib.hid tn.lt
                      rw [hql] at HOWN
                      have HQL := Lib.hid hql
                      have hHE : Hid (m + 1 ≤ maxLen) := by show _ ≤ _; unfold maxLen; omega
                      have hHF : Hid ((m + 1) * 8 ≤ 140737488355328) := by show _ ≤ _; omega
                      obtain ⟨i0, hi0, hi1, hi2, hi3⟩ := info_parts info_ptr
                      have HI := Lib.hid (And.intro hi0 (And.intro hi1 (And.intro hi2 hi3)))
                      clear hi0 hi1 hi2 hi3 n1 n2 n3 n4 n5 n6 m1 m3 m4 m5 m6 hnu HN1 HN2 c0 c1 c3 c4 f1 f3 f4 tn tcells tfoot hql
                      go_wp2_with (first | (at_builtin; refine wpList_append_lies (w := w1.alloc (.cells #[.pointer (some ⟨q, 0, none⟩)] 51)) rfl (.tmp 104) (.tmp 106) _ rfl 0 51 i0 _ 1 8 Tryz.underlying58 HI.out.1 HI.out.2.1 HI.out.2.2.1 HI.out.2.2.2 rfl (by omega) u m (qs.map ptrV) rfl (HOWN.out.alloc _) ⟨w1.heap.size, 0, none⟩ 1 1 [.pointer (some ⟨q, 0, none⟩)] rfl rfl (World.news_of_block (cs := #[.pointer (some ⟨q, 0, none⟩)]) (t := 51) (fr := (0, 0)) (heap_alloc_new w1 _)) (by simp [Value.oneCell']) (by omega) hHE.out hHF.out (Nat.zero_le _) (w1.heap.size + 1) (by simp) ?_; intro gg gcap w3 hown3 hgrow hat hlt3; have K3 := Lib.hid (KS.out w3 (fun b hb hne => (hgrow.block b (by simp; omega) (fun e => hne e.symm)).trans (by exact Below.heap_alloc w1 _ _ hb))); have k1 := K3.out.1; have k2 := K3.out.2; have HO3 := Lib.hid hown3; have HG4 := Lib.hid hgrow; have HA3 := Lib.hid hat; clear hown3 hgrow hat) | fail)
                      go_meet
                      have ha1 : u.ownBlock = some gg ∨ gg = (w1.alloc (.cells #[.pointer (some ⟨q, 0, none⟩)] 51)).heap.size := by simpa using HA3.out
                      have hw1 : Below w1.heap.size w1 (w1.alloc (.cells #[.pointer (some ⟨q, 0, none⟩)] 51)) := (Below.refl _ _).alloc (Nat.le_refl _) _
                      have ho1 : w3.ownsRow 0 51 1 (.slice (some ⟨gg, 0, none⟩) (qs.length + 1) gcap) (qs.length + 1) (qs.map ptrV ++ [ptrV q]) := by rw [HQL.out]; exact HO3.out
                      have hz1 : wr.heap.size ≤ w1.heap.size := HB.out.size
                      have r1 := NodeInv.addPart (w0 := wr) M1.out N2.out M3.out M4.out M5.out M6.out HT.out N4.out.size (fun b hb => (N3.out b hb).2) hw1 ho1 HG4.out ha1
                      have r2 := (M1.out.addPart N2.out hw1 ho1 HG4.out ha1).2.2
                      have hqG : ¬ G q := fun hg => by have := (N3.out q hg).2; have := TF.out; omega
                      rw [HQL.out] at r1 r2
                      refine ⟨r1, ?_, ?_, ?_⟩
                      · exact (r2.cell (p := ⟨q, 3, none⟩) TL.out hqG).trans TC.out.2.2.2.1
                      · exact (r2.cell (p := ⟨q, 4, none⟩) TL.out hqG).trans TC.out.2.2.2.2.1
                      · have h1 := TF.out
                        have h2 := (N3.out _ M1.out.foot).2
                        omega
                    case rest =>
                      obtain ⟨hc1, q3, q4, hpq⟩ := hcut
                      have HM1 := Lib.hid hc1
                      clear hc1 HN1 HN2
                      go_upto_region 43 with fail
                      go_cut [] (fun wx => NodeInv w wx c vs (ps ++ [f]) (Fm.orF (ps ++ [f])) (Fm.orA OV ps) ∧ wx.cell? ⟨q, 4, none⟩ = some (.int .i64 (Fm.vars f : Int)))
                      case first =>
                        have HS := Lib.hid (HM1.out.setFree (Fm.orF (ps ++ [f])))
                        have h43 := HM1.out
                        obtain ⟨G, F, qs, v, u, n1, n2, n3, n4, n5, n6⟩ := h43
                        obtain ⟨c0, c1, c2, c3, c4, f1, f2, f3, f4⟩ := n1.cells
                        have g3 : bits .or .i64 ((Fm.orF ps : Nat) : Int) ((Fm.free f : Nat) : Int) = ((Fm.orF (ps ++ [f]) : Nat) : Int) := by
                          rw [or_i64 _ _ (Fm.orF_lt ps) (Fm.free_lt f), Fm.orF_snoc]
                        have hq4 : Hid (∀ x : Value, (wc.setCell ⟨w.heap.size, 3, none⟩ x).cell? ⟨q, 4, none⟩ = some (.int .i64 (Fm.vars f : Int))) := fun x => by
                          rw [← q4]
                          exact World.cell?_of_block (w := wc) (Below.heap_setCell _ _ _ _ (by show q ≠ w.heap.size; omega))
                        generalize Fm.orF (ps ++ [f]) = B at *
                        clear n1 n2 n3 n4 n5 n6 c0 c1 c2 c4 f1 f2 f4
                        go_region
                        all_goals
                          go_wp2_with fail
                          go_meet
                          exact ⟨HS.out.drew, hq4.out _⟩
                      case rest =>
                        obtain ⟨hc1, q4⟩ := hcut
                        have HM2 := Lib.hid hc1
                        clear hc1 HM1
                        go_upto_region 44 with fail
                        go_cut [] (fun wx => NodeInv w wx c vs (ps ++ [f]) (Fm.orF (ps ++ [f])) (Fm.orA OV (ps ++ [f])))
                        case first =>
                          have HS := Lib.hid (HM2.out.setAll (Fm.orA OV (ps ++ [f])))
                          have h43 := HM2.out
                          obtain ⟨G, F, qs, v, u, n1, n2, n3, n4, n5, n6⟩ := h43
                          obtain ⟨c0, c1, c2, c3, c4, f1, f2, f3, f4⟩ := n1.cells
                          have g3 : bits .or .i64 ((Fm.orA OV ps : Nat) : Int) ((Fm.vars f : Nat) : Int) = ((Fm.orA OV (ps ++ [f]) : Nat) : Int) := by
                            rw [or_i64 _ _ (Fm.orA_lt OV (by rw [← HOV.out]; exact Fm.orV_lt vs) ps) (Fm.vars_lt f), Fm.orA_snoc]
                          generalize Fm.orA OV (ps ++ [f]) = B at *
                          clear n1 n2 n3 n4 n5 n6 c0 c1 c2 c3 f1 f2 f3
                          go_region
                          all_goals
                            go_wp2_with fail
                            go_meet
                            exact HS.out.drew
                        case rest =>
                          have HM3 := Lib.hid hcut
                          clear hcut HM2
                          go_wp2_with fail
                          go_roundw
                          case rel =>
                            exact ⟨m + 1, r, ps ++ [f], by omega, rfl, by go_num, hr, by rw [List.length_append, HPL.out]; rfl, HG3.out, HM3.out⟩
                          case measure => simp [intOf]; omega
                · have hmn : m = np := by omega
                  subst hmn
                  obtain ⟨G, F, qs, v, u, n1, n2, n3, n4, n5, n6⟩ := HN.out
                  have HQU := Lib.hid (quant_any wr n1)
                  unfold ptrV at HQU
                  have HRS : Hid (RES = some (Fm.build c vs ps, t.data.toList)) := by
                    show _ = _
                    rw [← HGO.out, Nat.sub_self]; rfl
                  have HSP : Hid (Fm.shape c = some (vs.length, ps.length)) := by
                    show _ = _
                    rw [HSS.out, HVL.out, HPL.out]
                  obtain ⟨c0, c1, c2, c3, c4, f1, f2, f3, f4⟩ := n1.cells
                  have hvv := n1.vars.view
                  have HVV := Lib.hid hvv
                  clear n1 n2 n3 n4 n5 n6 c0 c2 c4 f1 f2 f4 hvv
                  obtain ⟨b, hb⟩ : ∃ b, Fm.isQu c = b := ⟨_, rfl⟩
                  have HB := Lib.hid hb
                  rw [hb] at HQU
                  clear hb
                  cases b
                  · have HP : Hid (ParseP w RES (.returned (.tuple #[.pointer (some ⟨w.heap.size, 0, none⟩), .string t])) wr) := by
                      refine ⟨HN.out.old, .inr ⟨Fm.build c vs ps, t, w.heap.size, HRS.out, rfl, ?_⟩⟩
                      obtain ⟨b1, b2, b3, b4, b5⟩ := Fm.build_node HSP.out
                      refine NodeInv.tree ?_
                      rw [b1, b2, b3, b4, b5, if_neg (by rw [HPL.out]; omega), HB.out, HOV.out]
                      exact HN.out
                    clear c1 c3 f3
                    go_wp2_with fail
                    refine HQU.out.mono ?_; rintro e w' ⟨rfl, rfl⟩
                    go_wp2_with fail
                    go_ret2
                    exact HP.out
                  · have hv1 : vs.length = 1 := by
                      have h5 := HB.out
                      rcases HSH.out with ⟨rfl, h2⟩ | ⟨rfl, h2⟩ | ⟨rfl, h2⟩ | ⟨e, rfl, h2⟩ | ⟨rfl, h2⟩ | ⟨o, rfl, h2⟩ | ⟨q, rfl, h2⟩
                      · cases h5
                      · cases h5
                      · cases h5
                      · cases e <;> cases h5
                      · cases h5
                      · cases o <;> cases h5
                      · have h3 := congrArg Prod.fst h2
                        rw [HVL.out]; exact h3
                    obtain ⟨x, rfl⟩ : ∃ x, vs = [x] := by
                      match vs, hv1 with
                      | [x], _ => exact ⟨x, rfl⟩
                    obtain ⟨a, cap, rfl, hc1, hc2, hcc⟩ := HVV.out
                    obtain ⟨g, rfl, hg1, hg2, hg3⟩ := hcc (by simp)
                    have hg4 : wr.cell? ⟨g, 0, none⟩ = some (.int .u8 ((97 + x.val : Nat) : Int)) := hg3 0 (by simp)
                    have e1 : ([x].map vbV).length = 1 := rfl
                    rw [e1] at c1
                    have g1 := vb_sub2 x
                    have HP : Hid (ParseP w RES (.returned (.tuple #[.pointer (some ⟨w.heap.size, 0, none⟩), .string t])) (wr.setCell ⟨w.heap.size, 3, none⟩ (.int .i64 ((Fm.orF ps &&& (15 ^^^ 1 <<< x.val) : Nat) : Int))).drew) := by
                      have hN := (HN.out.setFree (Fm.orF ps &&& (15 ^^^ 1 <<< x.val))).drew
                      refine ⟨hN.old, .inr ⟨Fm.build c [x] ps, t, w.heap.size, HRS.out, rfl, ?_⟩⟩
                      obtain ⟨b1, b2, b3, b4, b5⟩ := Fm.build_node HSP.out
                      refine NodeInv.tree ?_
                      rw [b1, b2, b3, b4, b5, if_neg (by rw [HPL.out]; omega), HB.out, if_pos rfl, HOV.out]
                      exact hN
                    have g2 := shl_i64 x
                    have g3 : bits .andNot .i64 ((Fm.orF ps : Nat) : Int) ((1 <<< x.val : Nat) : Int) = ((Fm.orF ps &&& (15 ^^^ 1 <<< x.val) : Nat) : Int) := andNot_i64 _ _ (Fm.orF_lt ps) (Fm.bit_lt x)
                    have g4 : (0 : Int) ≤ (x.val : Int) ∧ (x.val : Int) < 4 := by have := x.isLt; omega
                    generalize (Fm.orF ps &&& (15 ^^^ 1 <<< x.val)) = B at *
                    generalize (1 <<< x.val) = A at *
                    obtain ⟨y, hy⟩ : ∃ y, ((97 + x.val : Nat) : Int) = y := ⟨_, rfl⟩
                    rw [hy] at hg4 g1
                    clear hy hcc hc1 hc2 hg1 hg2 hg3 hv1 e1
                    go_wp2_with fail
                    refine HQU.out.mono ?_; rintro e w' ⟨rfl, rfl⟩
                    go_wp2_with fail
                    go_region
                    all_goals
                      go_wp2_with fail
                      go_ret2
                      exact HP.out
end Go.Proofs.YtihomcedaaiidaaGreatDoor
namespace Go.Proofs.YtihomcedaaiidaaGreatDoor
open Go.RowKit
set_option linter.unusedVariables false
set_option maxRecDepth 100000 in
theorem parsePart_zero : ParseOK 0 := by
  intro s w hn hm
  have h0 : s = ByteArray.empty := by
    have : s.size = 0 := by omega
    simpa using this
  subst h0
  have HP : Hid (ParseP w (Fm.parse ByteArray.empty.size ByteArray.empty.data.toList) (.returned (.tuple #[.pointer none, .string ByteArray.empty])) w) := ⟨Below.refl _ _, .inl ⟨rfl, _, rfl⟩⟩
  go_enter Tryz.func56, Tryz.ntmps56
  go_wp2_with fail
  go_ret2
  exact HP.out
theorem parsePart_any : ∀ n, ParseOK n
  | 0 => parsePart_zero
  | n + 1 => parsePart_succ n (Lib.hid (parsePart_any n))
/-- What parseFormula leaves. -/
def FormP (w : World) (res : Option Fm.T) (e : Ending) (w' : World) : Prop :=
  Below w.heap.size w w' ∧ ((res = none ∧ e = .returned (.pointer none)) ∨ ∃ (φ : Fm.T) (p : Nat), res = some φ ∧ e = .returned (ptrV p) ∧ Tree (fun b => w.heap.size ≤ b) w' φ p)
set_option maxRecDepth 100000 in
theorem parseFormula_any (f : ByteArray) (w : World) (hf : f.size ≤ 9223372036854775807) : Calls Tryz.prog 27 #[.string f] w (FormP w (readB f)) := by
  by_cases h : f.size ≤ 4000
  · have HC := Lib.hid (fun w => parsePart_any f.size f w (Nat.le_refl _) (by omega))
    have hI : ((f.size : Int) ≤ 4000) := by omega
    have HR : Hid (readB f = (Fm.parse f.size f.data.toList).bind fun p => if p.2 = [] then some p.1 else none) := by
      show Fm.read f.data.toList = _
      unfold Fm.read
      rw [if_neg (by simp; omega)]
      simp
    obtain ⟨RES, hres⟩ : ∃ r, readB f = r := ⟨_, rfl⟩
    rw [hres] at HR ⊢
    clear hres h hf
    go_enter Tryz.func27, Tryz.ntmps27
    go_wp2_with fail
    refine (HC.out _).mono ?_; rintro e w1 ⟨hb, hres⟩
    have HB := Lib.hid hb
    clear hb
    rcases hres with ⟨hnone, r, rfl⟩ | ⟨φ, r, q, hsome, rfl, htree⟩
    · have HP : Hid (FormP w RES (.returned (.pointer none)) w1) := ⟨HB.out, .inl ⟨by rw [HR.out, hnone]; rfl, rfl⟩⟩
      clear hnone
      by_cases hr : r = ByteArray.empty
      · subst hr
        go_wp2_with fail
        go_ret
        exact HP.out
      · have h1 : ¬ r.toList = [] := by
          intro h
          apply hr
          apply ByteArray.ext
          apply Array.ext'
          rw [← Lib.toList_data, h]; rfl
        have h2 : r.toList.isEmpty = false := by
          cases h3 : r.toList with
          | nil => exact absurd h3 h1
          | cons a l => rfl
        clear hr
        go_wp2_with fail
        go_ret
        exact HP.out
    · by_cases hr : r = ByteArray.empty
      · subst hr
        have HP : Hid (FormP w RES (.returned (.pointer (some ⟨q, 0, none⟩))) w1) := ⟨HB.out, .inr ⟨φ, q, by rw [HR.out, hsome]; rfl, rfl, htree⟩⟩
        clear hsome htree
        unfold ptrV
        go_wp2_with fail
        go_ret
        exact HP.out
      · have h0 : r.data.toList ≠ [] := by
          intro h
          apply hr
          apply ByteArray.ext
          apply Array.ext'
          rw [h]; rfl
        have HP : Hid (FormP w RES (.returned (.pointer none)) w1) := ⟨HB.out, .inl ⟨by rw [HR.out, hsome]; show (if r.data.toList = [] then some φ else none) = none; rw [if_neg h0], rfl⟩⟩
        have h1 : ¬ r.toList = [] := by rw [Lib.toList_data]; exact h0
        have h2 : r.toList.isEmpty = false := by
          cases h3 : r.toList with
          | nil => exact absurd h3 h1
          | cons a l => rfl
        clear hsome htree hr h0
        unfold ptrV
        go_wp2_with fail
        go_ret
        exact HP.out
  · have HP : Hid (FormP w (readB f) (.returned (.pointer none)) w) := by
      refine ⟨Below.refl _ _, .inl ⟨?_, rfl⟩⟩
      show Fm.read f.data.toList = _
      unfold Fm.read
      rw [if_pos (by simp; omega)]
    have hI : ¬ ((f.size : Int) ≤ 4000) := by omega
    go_enter Tryz.func27, Tryz.ntmps27
    go_wp2_with fail
    go_ret
    exact HP.out
end Go.Proofs.YtihomcedaaiidaaGreatDoor
