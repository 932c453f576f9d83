/- Contracts of the program's functions and what they compute: part 27. Conditions: those that each theorem states. -/
import Derived.Test.YtofmagiahmmmgaaGreatDoorP53n9
import Derived.Deep.RegionHeld3
import Derived.Outline
import Derived.OwnWalk
namespace Go.Proofs.YtofmagiahmmmgaaGreatDoor
open Go.RowKit
set_option linter.unusedVariables false
/-- The least winning reply. -/
def replyB (a : Gs.St) (la : List Nat) (b : Gs.St) (lb : List Nat) (k x : Nat) : Option Nat := (List.range b.n).find? fun y => Gs.still a la b lb x y && Gs.goes k a (la ++ [x]) b (lb ++ [y])
def optV : Option Nat → Value
  | some y => .tuple #[.int .i64 (y : Int), .bool true]
  | none => .tuple #[.int .i64 0, .bool false]
theorem goes_reply (k : Nat) (a : Gs.St) (la : List Nat) (b : Gs.St) (lb : List Nat) :
    Gs.goes (k + 1) a la b lb = (((List.range a.n).all fun x => (replyB a la b lb k x).isSome) && ((List.range b.n).all fun y => (replyB b lb a la k y).isSome)) := by
  simp only [Gs.goes, replyB]
  congr 1 <;> congr 1 <;> funext x <;> rw [Bool.eq_iff_iff] <;> simp
/-- Two structures and lists of their elements. -/
structure Pos (n : Nat) (S R : ByteArray) (m : Nat) (S2 R2 : ByteArray) (la lb : List Nat) (k : Nat) : Prop where
  hS : S.size = n
  hR : R.size = n * n
  hn : n ≤ 8
  hS2 : S2.size = m
  hR2 : R2.size = m * m
  hm : m ≤ 8
  hl : la.length = lb.length
  hl8 : la.length + k ≤ 8
  ha : ∀ z ∈ la, z < n
  hb : ∀ z ∈ lb, z < m
theorem Pos.swap {n : Nat} {S R : ByteArray} {m : Nat} {S2 R2 : ByteArray} {la lb : List Nat} {k : Nat} (h : Pos n S R m S2 R2 la lb k) : Pos m S2 R2 n S R lb la k :=
  ⟨h.hS2, h.hR2, h.hm, h.hS, h.hR, h.hn, h.hl.symm, by rw [← h.hl]; exact h.hl8, h.hb, h.ha⟩
theorem Pos.more {n : Nat} {S R : ByteArray} {m : Nat} {S2 R2 : ByteArray} {la lb : List Nat} {k x y : Nat} (h : Pos n S R m S2 R2 la lb (k + 1)) (hx : x < n) (hy : y < m) : Pos n S R m S2 R2 (la ++ [x]) (lb ++ [y]) k := by
  refine ⟨h.hS, h.hR, h.hn, h.hS2, h.hR2, h.hm, by simp [h.hl], by have := h.hl8; simp; omega, fun z hz => ?_, fun z hz => ?_⟩
  · rcases List.mem_append.1 hz with hz | hz
    · exact h.ha z hz
    · simp at hz; omega
  · rcases List.mem_append.1 hz with hz | hz
    · exact h.hb z hz
    · simp at hz; omega
/-- What goesOn does, for so many rounds. -/
def GoesOK (k : Nat) : Prop := ∀ (n : Nat) (S R : ByteArray) (m : Nat) (S2 R2 : ByteArray) (va vb : Value) (la lb : List Nat) (w : World), Pos n S R m S2 R2 la lb k →
  NumsAt w va la → NumsAt w vb lb → Gs.same (stOf n S R) la (stOf m S2 R2) lb = true →
  Calls Tryz.prog 47 #[strV n S R, va, strV m S2 R2, vb, .int .i64 (k : Int)] w fun e w' => e = .returned (.bool (Gs.goes k (stOf n S R) la (stOf m S2 R2) lb)) ∧ Below w.heap.size w w'
/-- What replyTo does. -/
def ReplyOK (k : Nat) : Prop := ∀ (n : Nat) (S R : ByteArray) (m : Nat) (S2 R2 : ByteArray) (va vb : Value) (la lb : List Nat) (x : Nat) (w : World), Pos n S R m S2 R2 la lb (k + 1) →
  NumsAt w va la → NumsAt w vb lb → x < n → 
  Calls Tryz.prog 92 #[strV n S R, va, strV m S2 R2, vb, .int .i64 ((k + 1 : Nat) : Int), .int .i64 (x : Int)] w fun e w' =>
    e = .returned (optV (if Gs.same (stOf n S R) la (stOf m S2 R2) lb = true then replyB (stOf n S R) la (stOf m S2 R2) lb k x else none)) ∧ Below w.heap.size w w'
theorem find_at {p : Nat → Bool} {m y : Nat} (hy : y < m) (h : ∀ z, z < y → p z = false) (hp : p y = true) : (List.range m).find? p = some y := by
  rw [List.find?_eq_some_iff_append]
  refine ⟨hp, List.range y, (List.range m).drop (y + 1), ?_, ?_⟩
  · have : (List.range m) = (List.range m).take y ++ (List.range m).drop y := (List.take_append_drop _ _).symm
    rw [this]
    congr 1
    · rw [List.take_range]; congr 1; omega
    · rw [List.take_append_drop, List.drop_eq_getElem_cons (by simpa using hy)]
      simp
  · intro z hz
    have := h z (List.mem_range.1 hz)
    simp [this]
theorem find_none {p : Nat → Bool} {m : Nat} (h : ∀ z, z < m → p z = false) : (List.range m).find? p = none := by
  rw [List.find?_eq_none]
  intro z hz
  have := h z (List.mem_range.1 hz)
  simp [this]
set_option maxRecDepth 100000 in
set_option maxHeartbeats 1000000 in
theorem replyTo_any (k : Nat) (hk : k ≤ 8) (HG : Hid (GoesOK k)) : ReplyOK k := by
  intro n S R m S2 R2 va vb la lb x w hp hva hvb hx
  have HP := Lib.hid hp
  have HNA := Lib.hid hva; have HNB := Lib.hid hvb
  have HT := Lib.hid (Two.new w n S R m S2 R2)
  unfold boxS at HT
  have hSm := fun w' (h : Below w.heap.size w w') => sameWay_any n S R m S2 R2 va vb la lb w' hp.hS hp.hR hp.hn hp.hS2 hp.hR2 hp.hm (hva.below h) (hvb.below h) hp.hl (by have := hp.hl8; omega) hp.ha hp.hb
  have hSt := fun y w' (h : Below w.heap.size w w') hy => stillSame_any n S R m S2 R2 va vb la lb x y w' hp.hS hp.hR hp.hn hp.hS2 hp.hR2 hp.hm (hva.below h) (hvb.below h) hp.hl (by have := hp.hl8; omega) hp.ha hp.hb hx hy
  have hn := hp.hn; have hm := hp.hm
  obtain ⟨c, hc⟩ : ∃ c, Gs.same (stOf n S R) la (stOf m S2 R2) lb = c := ⟨_, rfl⟩
  rw [hc] at hSm ⊢
  have HC := Lib.hid hc
  clear hc hva hvb hp
  unfold strV at hSm hSt
  have HSM := Lib.hid hSm; have HST := Lib.hid hSt
  clear hSm hSt
  unfold strV
  cases c
  · go_enter Tryz.func92, Tryz.ntmps92
    go_wp2_with fail
    refine (HSM.out _ HT.out.old).mono ?_; rintro e w1 ⟨rfl, hb⟩
    have HT1 := Lib.hid (HT.out.below hb); clear hb
    go_wp2_with fail
    go_ret2
    exact ⟨rfl, HT1.out.old⟩
  · rw [if_pos rfl]
    obtain ⟨RES, hres⟩ : ∃ p, replyB (stOf n S R) la (stOf m S2 R2) lb k x = p := ⟨_, rfl⟩
    rw [hres]
    have HRES := Lib.hid hres
    clear hres
    go_enter Tryz.func92, Tryz.ntmps92
    go_wp2_with fail
    refine (HSM.out _ HT.out.old).mono ?_; rintro e w1 ⟨rfl, hb⟩
    have HT1 := Lib.hid (HT.out.below hb); clear hb
    obtain ⟨c0, c1, c2, f0, f1, f2, hl1⟩ := HT1.out.b.cells
    go_wp2_with fail
    go_loopw [23] (fun i wr => ∃ y : Nat, y ≤ m ∧ i = .int .i64 y ∧ Hid (Two w wr n S R m S2 R2) ∧ Hid (∀ z, z < y → (Gs.still (stOf n S R) la (stOf m S2 R2) lb x z && Gs.goes k (stOf n S R) (la ++ [x]) (stOf m S2 R2) (lb ++ [z])) = false)) (fun i _ => m - (intOf i).toNat)
    case atStart => exact ⟨0, by omega, rfl, HT1.out, fun j hj => by omega⟩
    case round =>
      obtain ⟨y, hy, rfl, HT2, HK⟩ := hrel
      by_cases hlt : y < m
      · have j1 := fun w' (h : Below wr.heap.size wr w') => HST.out y w' (HT2.out.old.trans (h.mono HT2.out.old.size)) hlt
        obtain ⟨c, hc⟩ : ∃ c, Gs.still (stOf n S R) la (stOf m S2 R2) lb x y = c := ⟨_, rfl⟩
        rw [hc] at j1
        have HCC := Lib.hid hc
        have J1 := Lib.hid j1
        clear j1 hc
        cases c
        · go_wp2_with fail
          have f0 := fun s => Since.cell HT2.out.a.cells.1 s
          have f1 := fun s => Since.cell HT2.out.a.cells.2.1 s
          have f2 := fun s => Since.cell HT2.out.a.cells.2.2.1 s
          have g0 := fun s => Since.cell HT2.out.b.cells.1 s
          have g1 := fun s => Since.cell HT2.out.b.cells.2.1 s
          have g2 := fun s => Since.cell HT2.out.b.cells.2.2.1 s
          refine wp_region_since (by kernel_rfl) (by kernel_rfl) ?_
          repeat (go_big_quiet_step ((with_reducible exact Since.call (J1.out _ (Since.below _)))))
          refine wpQuiet_nil ?_
          intro w1 hb1
          have HT3 := Lib.hid (HT2.out.below hb1)
          clear f0 f1 f2 g0 g1 g2 hb1
          go_wp2_with fail
          go_roundw
          case rel =>
            refine ⟨y + 1, by omega, by go_num, HT3.out, fun z hz => ?_⟩
            by_cases hzy : z = y
            · rw [hzy, HCC.out]; rfl
            · exact HK.out z (by omega)
          case measure => simp [intOf]; omega
        · have hgo := fun va vb w' h1 h2 => HG.out n S R m S2 R2 va vb (la ++ [x]) (lb ++ [y]) w' (HP.out.more hx hlt) h1 h2 (by rw [Gs.same_snoc HP.out.hl, HC.out, HCC.out]; rfl)
          unfold strV at hgo
          obtain ⟨g, hg⟩ : ∃ g, Gs.goes k (stOf n S R) (la ++ [x]) (stOf m S2 R2) (lb ++ [y]) = g := ⟨_, rfl⟩
          rw [hg] at hgo
          have HGG := Lib.hid hg
          have HGO := Lib.hid hgo
          have HL1 : Hid (la.length ≤ 1000) := by have := HP.out.hl8; show _ ≤ _; omega
          have HL2 : Hid (lb.length ≤ 1000) := by have := HP.out.hl8; have := HP.out.hl; show _ ≤ _; omega
          clear hg hgo
          cases g
          · have hwk : IntKind.i64.wrap (k : Int) = (k : Int) := IntWalk.i64_in _ (by omega)
            go_wp2_with fail
            obtain ⟨a0, a1, a2, _, _, _, _⟩ := HT2.out.a.cells
            obtain ⟨b0, b1, b2, _, _, _, _⟩ := HT2.out.b.cells
            have KS : Hid (∀ w', Below wr.heap.size wr w' → (w'.cell? ⟨w.heap.size, 0, none⟩ = some (.int .i64 n) ∧ w'.cell? ⟨w.heap.size, 1, none⟩ = some (.string S) ∧ w'.cell? ⟨w.heap.size, 2, none⟩ = some (.string R) ∧ w'.cell? ⟨w.heap.size + 1, 0, none⟩ = some (.int .i64 m) ∧ w'.cell? ⟨w.heap.size + 1, 1, none⟩ = some (.string S2) ∧ w'.cell? ⟨w.heap.size + 1, 2, none⟩ = some (.string R2))) := fun w' h =>
              ⟨Since.cell a0 ⟨w', h⟩, Since.cell a1 ⟨w', h⟩, Since.cell a2 ⟨w', h⟩, Since.cell b0 ⟨w', h⟩, Since.cell b1 ⟨w', h⟩, Since.cell b2 ⟨w', h⟩⟩
            go_region_held3 (fun w' => w'.cell? ⟨w.heap.size, 0, none⟩ = some (.int .i64 n) ∧ w'.cell? ⟨w.heap.size, 1, none⟩ = some (.string S) ∧ w'.cell? ⟨w.heap.size, 2, none⟩ = some (.string R) ∧ w'.cell? ⟨w.heap.size + 1, 0, none⟩ = some (.int .i64 m) ∧ w'.cell? ⟨w.heap.size + 1, 1, none⟩ = some (.string S2) ∧ w'.cell? ⟨w.heap.size + 1, 2, none⟩ = some (.string R2))
              (first | exact KS.out _ HBK.out | go_keep)
              (first | ((with_reducible refine (J1.out _ ((Below.refl _ _).drew)).mono ?_); rintro e w2 ⟨rfl, hb⟩; have HBK := Lib.hid (((Below.refl wr.heap.size wr).drew).trans (hb.mono (Nat.le_refl _))); clear hb) | ((with_reducible refine (with_any va la x _ ?_ ?_).mono ?_); (exact HNA.out.below (HT2.out.old.trans (HBK.out.mono HT2.out.old.size))); (exact HL1.out); rintro e w3 ⟨v3, rfl, ho, hb⟩; have HO3 := Lib.hid ho; have HBK := Lib.hid (HBK.out.trans (hb.mono HBK.out.size)); clear ho hb) | ((with_reducible refine (with_any vb lb y _ ?_ ?_).mono ?_); (exact HNB.out.below (HT2.out.old.trans (HBK.out.mono HT2.out.old.size))); (exact HL2.out); rintro e w4 ⟨v4, rfl, ho, hb⟩; have HN3 := Lib.hid (HO3.out.nums.below hb); have HN4 := Lib.hid ho.nums; have HBK := Lib.hid (HBK.out.trans (hb.mono HBK.out.size)); clear ho hb) | ((with_reducible refine (HGO.out v3 v4 _ HN3.out HN4.out).mono ?_); rintro e w5 ⟨rfl, hb⟩; have HBK := Lib.hid (HBK.out.trans (hb.mono HBK.out.size)); clear hb) | fail)
            go_wp2_with fail
            have HT3 := Lib.hid (HT2.out.below HBK.out)
            go_roundw
            case rel =>
              refine ⟨y + 1, by omega, by go_num, HT3.out, fun z hz => ?_⟩
              by_cases hzy : z = y
              · rw [hzy, HGG.out]; simp
              · exact HK.out z (by omega)
            case measure => simp [intOf]; omega
          · have hwk : IntKind.i64.wrap (k : Int) = (k : Int) := IntWalk.i64_in _ (by omega)
            go_wp2_with fail
            obtain ⟨a0, a1, a2, _, _, _, _⟩ := HT2.out.a.cells
            obtain ⟨b0, b1, b2, _, _, _, _⟩ := HT2.out.b.cells
            have KS : Hid (∀ w', Below wr.heap.size wr w' → (w'.cell? ⟨w.heap.size, 0, none⟩ = some (.int .i64 n) ∧ w'.cell? ⟨w.heap.size, 1, none⟩ = some (.string S) ∧ w'.cell? ⟨w.heap.size, 2, none⟩ = some (.string R) ∧ w'.cell? ⟨w.heap.size + 1, 0, none⟩ = some (.int .i64 m) ∧ w'.cell? ⟨w.heap.size + 1, 1, none⟩ = some (.string S2) ∧ w'.cell? ⟨w.heap.size + 1, 2, none⟩ = some (.string R2))) := fun w' h =>
              ⟨Since.cell a0 ⟨w', h⟩, Since.cell a1 ⟨w', h⟩, Since.cell a2 ⟨w', h⟩, Since.cell b0 ⟨w', h⟩, Since.cell b1 ⟨w', h⟩, Since.cell b2 ⟨w', h⟩⟩
            go_region_held3 (fun w' => w'.cell? ⟨w.heap.size, 0, none⟩ = some (.int .i64 n) ∧ w'.cell? ⟨w.heap.size, 1, none⟩ = some (.string S) ∧ w'.cell? ⟨w.heap.size, 2, none⟩ = some (.string R) ∧ w'.cell? ⟨w.heap.size + 1, 0, none⟩ = some (.int .i64 m) ∧ w'.cell? ⟨w.heap.size + 1, 1, none⟩ = some (.string S2) ∧ w'.cell? ⟨w.heap.size + 1, 2, none⟩ = some (.string R2))
              (first | exact KS.out _ HBK.out | go_keep)
              (first | ((with_reducible refine (J1.out _ ((Below.refl _ _).drew)).mono ?_); rintro e w2 ⟨rfl, hb⟩; have HBK := Lib.hid (((Below.refl wr.heap.size wr).drew).trans (hb.mono (Nat.le_refl _))); clear hb) | ((with_reducible refine (with_any va la x _ ?_ ?_).mono ?_); (exact HNA.out.below (HT2.out.old.trans (HBK.out.mono HT2.out.old.size))); (exact HL1.out); rintro e w3 ⟨v3, rfl, ho, hb⟩; have HO3 := Lib.hid ho; have HBK := Lib.hid (HBK.out.trans (hb.mono HBK.out.size)); clear ho hb) | ((with_reducible refine (with_any vb lb y _ ?_ ?_).mono ?_); (exact HNB.out.below (HT2.out.old.trans (HBK.out.mono HT2.out.old.size))); (exact HL2.out); rintro e w4 ⟨v4, rfl, ho, hb⟩; have HN3 := Lib.hid (HO3.out.nums.below hb); have HN4 := Lib.hid ho.nums; have HBK := Lib.hid (HBK.out.trans (hb.mono HBK.out.size)); clear ho hb) | ((with_reducible refine (HGO.out v3 v4 _ HN3.out HN4.out).mono ?_); rintro e w5 ⟨rfl, hb⟩; have HBK := Lib.hid (HBK.out.trans (hb.mono HBK.out.size)); clear hb) | fail)
            go_wp2_with fail
            have HF : Hid (replyB (stOf n S R) la (stOf m S2 R2) lb k x = some y) := find_at hlt HK.out (by rw [HCC.out, HGG.out]; rfl)
            go_ret2
            exact ⟨by rw [← HRES.out, HF.out]; rfl, (HT2.out.below HBK.out).old⟩
      · have HF : Hid (replyB (stOf n S R) la (stOf m S2 R2) lb k x = none) := find_none fun z hz => HK.out z (by have hz : z < m := hz; omega)
        clear HK
        go_wp2_with fail
        go_ret2
        exact ⟨by rw [← HRES.out, HF.out]; rfl, HT2.out.old⟩
end Go.Proofs.YtofmagiahmmmgaaGreatDoor
namespace Go.Proofs.YtofmagiahmmmgaaGreatDoor
open Go.RowKit
set_option linter.unusedVariables false
theorem optV_form (o : Option Nat) : ∃ p : Int, optV o = .tuple #[.int .i64 p, .bool o.isSome] := by
  cases o
  · exact ⟨0, rfl⟩
  · exact ⟨_, rfl⟩
theorem goes_no1 {k : Nat} {a : Gs.St} {la : List Nat} {b : Gs.St} {lb : List Nat} {x : Nat} (hx : x < a.n) (h : (replyB a la b lb k x).isSome = false) : Gs.goes (k + 1) a la b lb = false := by
  rw [goes_reply, ← Bool.not_eq_true]
  intro hh
  rw [Bool.and_eq_true] at hh
  have := List.all_eq_true.1 hh.1 x (List.mem_range.2 hx)
  rw [h] at this; cases this
theorem goes_no2 {k : Nat} {a : Gs.St} {la : List Nat} {b : Gs.St} {lb : List Nat} {y : Nat} (hy : y < b.n) (h : (replyB b lb a la k y).isSome = false) : Gs.goes (k + 1) a la b lb = false := by
  rw [goes_reply, ← Bool.not_eq_true]
  intro hh
  rw [Bool.and_eq_true] at hh
  have := List.all_eq_true.1 hh.2 y (List.mem_range.2 hy)
  rw [h] at this; cases this
theorem goes_yes {k : Nat} {a : Gs.St} {la : List Nat} {b : Gs.St} {lb : List Nat} (h : ∀ x, x < a.n → (replyB a la b lb k x).isSome = true) (h' : ∀ y, y < b.n → (replyB b lb a la k y).isSome = true) : Gs.goes (k + 1) a la b lb = true := by
  rw [goes_reply, Bool.and_eq_true]
  exact ⟨List.all_eq_true.2 fun x hx => h x (List.mem_range.1 hx), List.all_eq_true.2 fun x hx => h' x (List.mem_range.1 hx)⟩
theorem same_swap {a b : Gs.St} {la lb : List Nat} (hl : la.length = lb.length) : Gs.same b lb a la = Gs.same a la b lb := by
  rw [Bool.eq_iff_iff, Gs.same_iff la.length lb la hl.symm rfl, Gs.same_iff lb.length la lb hl rfl]
  exact ⟨Eq.symm, Eq.symm⟩
theorem goesOn_zero : GoesOK 0 := by
  intro n S R m S2 R2 va vb la lb w hp hva hvb hs
  clear hp hva hvb hs
  unfold strV
  have HB := Lib.hid (Two.new w n S R m S2 R2).old
  unfold boxS at HB
  go_enter Tryz.func47, Tryz.ntmps47
  go_wp2_with fail
  go_ret
  exact ⟨rfl, HB.out⟩
set_option maxRecDepth 100000 in
set_option maxHeartbeats 1000000 in
theorem goesOn_succ (k : Nat) (hk : k ≤ 8) (HR : Hid (ReplyOK k)) : GoesOK (k + 1) := by
  intro n S R m S2 R2 va vb la lb w hp hva hvb hs
  rw [show ((k + 1 : Nat) : Int) = (k : Int) + 1 from rfl]
  have HP := Lib.hid hp
  have HT := Lib.hid (Two.new w n S R m S2 R2)
  unfold boxS at HT
  have r1 : ∀ x w', Below w.heap.size w w' → x < n → Calls Tryz.prog 92 #[strV n S R, va, strV m S2 R2, vb, .int .i64 ((k : Int) + 1), .int .i64 (x : Int)] w' fun e w2 =>
    e = .returned (optV (replyB (stOf n S R) la (stOf m S2 R2) lb k x)) ∧ Below w'.heap.size w' w2 := by
    intro x w' hb hx
    have h := HR.out n S R m S2 R2 va vb la lb x w' hp (hva.below hb) (hvb.below hb) hx
    rw [if_pos hs] at h
    exact h
  have r2 : ∀ x w', Below w.heap.size w w' → x < m → Calls Tryz.prog 92 #[strV m S2 R2, vb, strV n S R, va, .int .i64 ((k : Int) + 1), .int .i64 (x : Int)] w' fun e w2 =>
    e = .returned (optV (replyB (stOf m S2 R2) lb (stOf n S R) la k x)) ∧ Below w'.heap.size w' w2 := by
    intro x w' hb hx
    have h := HR.out m S2 R2 n S R vb va lb la x w' hp.swap (hvb.below hb) (hva.below hb) hx
    rw [if_pos (by rw [same_swap hp.hl]; exact hs)] at h
    exact h
  have hn := hp.hn; have hm := hp.hm
  obtain ⟨RES, hres⟩ : ∃ p, Gs.goes (k + 1) (stOf n S R) la (stOf m S2 R2) lb = p := ⟨_, rfl⟩
  rw [hres]
  have HRES := Lib.hid hres
  unfold strV at r1 r2
  obtain ⟨K, hK⟩ : ∃ K : Int, (k : Int) + 1 = K := ⟨_, rfl⟩
  have e0 : (K == 0) = false := by simp; omega
  rw [hK] at r1 r2 ⊢
  clear hK
  have R1 := Lib.hid r1; have RR2 := Lib.hid r2
  clear hres hp hva hvb hs r1 r2
  obtain ⟨c0, c1, c2, f0, f1, f2, hl1⟩ := HT.out.a.cells
  unfold strV
  go_enter Tryz.func47, Tryz.ntmps47
  go_wp2_with fail
  go_loopw [21] (fun i wr => ∃ x : Nat, x ≤ n ∧ i = .int .i64 x ∧ Hid (Two w wr n S R m S2 R2) ∧ Hid (∀ z, z < x → (replyB (stOf n S R) la (stOf m S2 R2) lb k z).isSome = true)) (fun i _ => n - (intOf i).toNat)
  case atStart => exact ⟨0, by omega, rfl, HT.out, fun j hj => by omega⟩
  case round =>
    obtain ⟨x, hx, rfl, HT2, HK⟩ := hrel
    clear c0 c1 c2 f0 f1 f2 hl1
    by_cases hlt : x < n
    · have j1 := R1.out x
      obtain ⟨p, hp⟩ := optV_form (replyB (stOf n S R) la (stOf m S2 R2) lb k x)
      rw [hp] at j1
      have HN := Lib.hid (fun h => goes_no1 (k := k) (a := stOf n S R) (la := la) (b := stOf m S2 R2) (lb := lb) (x := x) hlt h)
      obtain ⟨c, hc⟩ : ∃ c, (replyB (stOf n S R) la (stOf m S2 R2) lb k x).isSome = c := ⟨_, rfl⟩
      rw [hc] at j1 HN
      have HC := Lib.hid hc
      have J1 := Lib.hid j1
      clear j1 hc hp
      obtain ⟨c0, c1, c2, f0, f1, f2, hl1⟩ := HT2.out.a.cells
      obtain ⟨d0, d1, d2, g0, g1, g2, hl2⟩ := HT2.out.b.cells
      cases c
      · go_wp2_with fail
        refine (J1.out _ HT2.out.old hlt).mono ?_; rintro e w1 ⟨rfl, hb⟩
        have HT3 := Lib.hid (HT2.out.below hb); clear hb
        go_wp2_with fail
        go_ret
        exact ⟨ret_bool (by rw [← HRES.out]; exact (HN.out (by simp)).symm), HT3.out.old⟩
      · go_wp2_with fail
        refine (J1.out _ HT2.out.old hlt).mono ?_; rintro e w1 ⟨rfl, hb⟩
        have HT3 := Lib.hid (HT2.out.below hb); clear hb
        go_wp2_with fail
        go_roundw
        case rel =>
          refine ⟨x + 1, by omega, by go_num, HT3.out, fun z hz => ?_⟩
          by_cases hzy : z = x
          · rw [hzy]; exact HC.out
          · exact HK.out z (by omega)
        case measure => simp [intOf]; omega
    · obtain ⟨d0, d1, d2, g0, g1, g2, hl2⟩ := HT2.out.b.cells
      have HK1 : Hid (∀ z, z < n → (replyB (stOf n S R) la (stOf m S2 R2) lb k z).isSome = true) := fun z hz => HK.out z (by omega)
      clear HK HT
      go_wp2_with fail
      go_loopw [39] (fun i wr => ∃ x : Nat, x ≤ m ∧ i = .int .i64 x ∧ Hid (Two w wr n S R m S2 R2) ∧ Hid (∀ z, z < x → (replyB (stOf m S2 R2) lb (stOf n S R) la k z).isSome = true)) (fun i _ => m - (intOf i).toNat)
      case atStart => exact ⟨0, by omega, rfl, HT2.out, fun j hj => by omega⟩
      case round =>
        obtain ⟨y, hy, rfl, HT4, HK⟩ := hrel
        clear d0 d1 d2 g0 g1 g2 hl2
        by_cases hlt2 : y < m
        · have j1 := RR2.out y
          obtain ⟨p, hp⟩ := optV_form (replyB (stOf m S2 R2) lb (stOf n S R) la k y)
          rw [hp] at j1
          have HN := Lib.hid (fun h => goes_no2 (k := k) (a := stOf n S R) (la := la) (b := stOf m S2 R2) (lb := lb) (y := y) hlt2 h)
          obtain ⟨c, hc⟩ : ∃ c, (replyB (stOf m S2 R2) lb (stOf n S R) la k y).isSome = c := ⟨_, rfl⟩
          rw [hc] at j1 HN
          have HC := Lib.hid hc
          have J1 := Lib.hid j1
          clear j1 hc hp
          obtain ⟨c0, c1, c2, f0, f1, f2, hl1⟩ := HT4.out.a.cells
          obtain ⟨d0, d1, d2, g0, g1, g2, hl2⟩ := HT4.out.b.cells
          cases c
          · go_wp2_with fail
            refine (J1.out _ HT4.out.old hlt2).mono ?_; rintro e w1 ⟨rfl, hb⟩
            have HT3 := Lib.hid (HT4.out.below hb); clear hb
            go_wp2_with fail
            go_ret
            exact ⟨ret_bool (by rw [← HRES.out]; exact (HN.out (by simp)).symm), HT3.out.old⟩
          · go_wp2_with fail
            refine (J1.out _ HT4.out.old hlt2).mono ?_; rintro e w1 ⟨rfl, hb⟩
            have HT3 := Lib.hid (HT4.out.below hb); clear hb
            go_wp2_with fail
            go_roundw
            case rel =>
              refine ⟨y + 1, by omega, by go_num, HT3.out, fun z hz => ?_⟩
              by_cases hzy : z = y
              · rw [hzy]; exact HC.out
              · exact HK.out z (by omega)
            case measure => simp [intOf]; omega
        · have HE : Hid (Gs.goes (k + 1) (stOf n S R) la (stOf m S2 R2) lb = true) := goes_yes HK1.out fun z hz => HK.out z (by have hz : z < m := hz; omega)
          clear HK HK1
          go_wp2_with fail
          go_ret
          exact ⟨ret_bool (by rw [← HRES.out]; exact HE.out.symm), HT4.out.old⟩
theorem goesOn_any : ∀ k, k ≤ 8 → GoesOK k
  | 0, _ => goesOn_zero
  | k + 1, h => goesOn_succ k (by omega) (Lib.hid (replyTo_any k (by omega) (Lib.hid (goesOn_any k (by omega)))))
theorem secondWins_any (n : Nat) (S R : ByteArray) (m : Nat) (S2 R2 : ByteArray) (va vb : Value) (la lb : List Nat) (k : Nat) (w : World) (hp : Pos n S R m S2 R2 la lb k) (hva : NumsAt w va la) (hvb : NumsAt w vb lb) :
    Calls Tryz.prog 24 #[strV n S R, va, strV m S2 R2, vb, .int .i64 (k : Int)] w fun e w' => e = .returned (.bool (Gs.wins k (stOf n S R) la (stOf m S2 R2) lb)) ∧ Below w.heap.size w w' := by
  have HT := Lib.hid (Two.new w n S R m S2 R2)
  unfold boxS at HT
  have hSm := fun w' (h : Below w.heap.size w w') => sameWay_any n S R m S2 R2 va vb la lb w' hp.hS hp.hR hp.hn hp.hS2 hp.hR2 hp.hm (hva.below h) (hvb.below h) hp.hl (by have := hp.hl8; omega) hp.ha hp.hb
  have hGo := fun w' (h : Below w.heap.size w w') hs => goesOn_any k (by have := hp.hl8; omega) n S R m S2 R2 va vb la lb w' hp (hva.below h) (hvb.below h) hs
  have HW : Hid (Gs.wins k (stOf n S R) la (stOf m S2 R2) lb = (Gs.same (stOf n S R) la (stOf m S2 R2) lb && Gs.goes k (stOf n S R) la (stOf m S2 R2) lb)) := rfl
  unfold strV at hSm hGo
  obtain ⟨c, hc⟩ : ∃ c, Gs.same (stOf n S R) la (stOf m S2 R2) lb = c := ⟨_, rfl⟩
  obtain ⟨RES, hres⟩ : ∃ p, Gs.wins k (stOf n S R) la (stOf m S2 R2) lb = p := ⟨_, rfl⟩
  rw [hc] at hSm hGo HW
  rw [hres] at HW ⊢
  have HSM := Lib.hid hSm; have HGO := Lib.hid hGo
  clear hSm hGo hc hres hp hva hvb
  obtain ⟨c0, c1, c2, f0, f1, f2, hl1⟩ := HT.out.a.cells
  obtain ⟨d0, d1, d2, g0, g1, g2, hl2⟩ := HT.out.b.cells
  unfold strV
  cases c
  · go_enter Tryz.func24, Tryz.ntmps24
    go_wp2_with fail
    refine (HSM.out _ HT.out.old).mono ?_; rintro e w1 ⟨rfl, hb⟩
    have HT3 := Lib.hid (HT.out.below hb); clear hb
    go_wp2_with fail
    go_ret
    exact ⟨ret_bool (by rw [HW.out]; rfl), HT3.out.old⟩
  · generalize Gs.goes k (stOf n S R) la (stOf m S2 R2) lb = g at *
    go_enter Tryz.func24, Tryz.ntmps24
    go_wp2_with fail
    refine (HSM.out _ HT.out.old).mono ?_; rintro e w1 ⟨rfl, hb⟩
    have HT3 := Lib.hid (HT.out.below hb); clear hb
    clear c0 c1 c2 f0 f1 f2 hl1 d0 d1 d2 g0 g1 g2 hl2
    obtain ⟨c0, c1, c2, f0, f1, f2, hl1⟩ := HT3.out.a.cells
    obtain ⟨d0, d1, d2, g0, g1, g2, hl2⟩ := HT3.out.b.cells
    go_wp2_with fail
    refine (HGO.out _ HT3.out.old (by simp)).mono ?_; rintro e w2 ⟨rfl, hb⟩
    have HT4 := Lib.hid (HT3.out.below hb); clear hb
    go_wp2_with fail
    go_ret
    exact ⟨ret_bool (by rw [HW.out]; simp), HT4.out.old⟩
end Go.Proofs.YtofmagiahmmmgaaGreatDoor

namespace Go.Proofs.YtofmagiahmmmgaaGreatDoor
open Go.RowKit
set_option linter.unusedVariables false
set_option maxRecDepth 100000
/-- The first choice that cannot be answered. -/
def noRep (a : Gs.St) (la : List Nat) (b : Gs.St) (lb : List Nat) (k : Nat) : Option Nat := (List.range a.n).find? fun x => !(replyB a la b lb k x).isSome
def moveV (a : Gs.St) (la : List Nat) (b : Gs.St) (lb : List Nat) (k : Nat) : Value :=
  match noRep a la b lb k with
  | some x => .tuple #[.string ⟨#[97]⟩, .int .i64 (x : Int), .bool true]
  | none => match noRep b lb a la k with
    | some y => .tuple #[.string ⟨#[98]⟩, .int .i64 (y : Int), .bool true]
    | none => .tuple #[.string ⟨#[]⟩, .int .i64 0, .bool false]
theorem noRep_at {a : Gs.St} {la : List Nat} {b : Gs.St} {lb : List Nat} {k x : Nat} (hx : x < a.n) (h : ∀ z, z < x → (replyB a la b lb k z).isSome = true) (hn : (replyB a la b lb k x).isSome = false) : noRep a la b lb k = some x :=
  find_at hx (fun z hz => by simp [h z hz]) (by simp [hn])
theorem noRep_none {a : Gs.St} {la : List Nat} {b : Gs.St} {lb : List Nat} {k : Nat} (h : ∀ z, z < a.n → (replyB a la b lb k z).isSome = true) : noRep a la b lb k = none := by
  unfold noRep
  rw [List.find?_eq_none]
  intro z hz
  simp [h z (List.mem_range.1 hz)]
theorem moveV_a {a : Gs.St} {la : List Nat} {b : Gs.St} {lb : List Nat} {k x : Nat} (h : noRep a la b lb k = some x) : moveV a la b lb k = .tuple #[.string ⟨#[97]⟩, .int .i64 (x : Int), .bool true] := by unfold moveV; rw [h]
theorem moveV_b {a : Gs.St} {la : List Nat} {b : Gs.St} {lb : List Nat} {k y : Nat} (h0 : noRep a la b lb k = none) (h : noRep b lb a la k = some y) : moveV a la b lb k = .tuple #[.string ⟨#[98]⟩, .int .i64 (y : Int), .bool true] := by unfold moveV; rw [h0, h]
theorem moveV_no {a : Gs.St} {la : List Nat} {b : Gs.St} {lb : List Nat} {k : Nat} (h0 : noRep a la b lb k = none) (h : noRep b lb a la k = none) : moveV a la b lb k = .tuple #[.string ⟨#[]⟩, .int .i64 0, .bool false] := by unfold moveV; rw [h0, h]
theorem ret_v {a b : Value} (h : a = b) : Ending.returned a = .returned b := by rw [h]
set_option maxHeartbeats 2000000 in
theorem firstMove_any (k : Nat) (hk : k ≤ 7) (n : Nat) (S R : ByteArray) (m : Nat) (S2 R2 : ByteArray) (va vb : Value) (la lb : List Nat) (w : World) (hp : Pos n S R m S2 R2 la lb (k + 1))
    (hva : NumsAt w va la) (hvb : NumsAt w vb lb) (hs : Gs.same (stOf n S R) la (stOf m S2 R2) lb = true) :
    Calls Tryz.prog 49 #[strV n S R, va, strV m S2 R2, vb, .int .i64 ((k : Int) + 1)] w fun e w' => e = .returned (moveV (stOf n S R) la (stOf m S2 R2) lb k) ∧ Below w.heap.size w w' := by
  have HR := Lib.hid (replyTo_any k (by omega) (Lib.hid (goesOn_any k (by omega))))
  have HT := Lib.hid (Two.new w n S R m S2 R2)
  unfold boxS at HT
  have hSm := fun w' (h : Below w.heap.size w w') => sameWay_any n S R m S2 R2 va vb la lb w' hp.hS hp.hR hp.hn hp.hS2 hp.hR2 hp.hm (hva.below h) (hvb.below h) hp.hl (by have := hp.hl8; omega) hp.ha hp.hb
  rw [hs] at hSm
  have r1 : ∀ x w', Below w.heap.size w w' → x < n → Calls Tryz.prog 92 #[strV n S R, va, strV m S2 R2, vb, .int .i64 ((k : Int) + 1), .int .i64 (x : Int)] w' fun e w2 =>
    e = .returned (optV (replyB (stOf n S R) la (stOf m S2 R2) lb k x)) ∧ Below w'.heap.size w' w2 := by
    intro x w' hb hx
    have h := HR.out n S R m S2 R2 va vb la lb x w' hp (hva.below hb) (hvb.below hb) hx
    rw [if_pos hs] at h
    exact h
  have r2 : ∀ x w', Below w.heap.size w w' → x < m → Calls Tryz.prog 92 #[strV m S2 R2, vb, strV n S R, va, .int .i64 ((k : Int) + 1), .int .i64 (x : Int)] w' fun e w2 =>
    e = .returned (optV (replyB (stOf m S2 R2) lb (stOf n S R) la k x)) ∧ Below w'.heap.size w' w2 := by
    intro x w' hb hx
    have h := HR.out m S2 R2 n S R vb va lb la x w' hp.swap (hvb.below hb) (hva.below hb) hx
    rw [if_pos (by rw [same_swap hp.hl]; exact hs)] at h
    exact h
  have hn := hp.hn; have hm := hp.hm
  obtain ⟨RES, hres⟩ : ∃ p, moveV (stOf n S R) la (stOf m S2 R2) lb k = p := ⟨_, rfl⟩
  rw [hres]
  have HRES := Lib.hid hres
  unfold strV at r1 r2 hSm
  obtain ⟨K, hK⟩ : ∃ K : Int, (k : Int) + 1 = K := ⟨_, rfl⟩
  have e0 : (K == 0) = false := by simp; omega
  have e0N : ¬ K = 0 := by omega
  rw [hK] at r1 r2 ⊢
  clear hK
  have R1 := Lib.hid r1; have RR2 := Lib.hid r2; have HSm := Lib.hid hSm
  clear hres hp hva hvb hs r1 r2 hSm
  obtain ⟨c0, c1, c2, f0, f1, f2, hl1⟩ := HT.out.a.cells
  obtain ⟨d0, d1, d2, g0, g1, g2, hl2⟩ := HT.out.b.cells
  unfold strV
  go_enter Tryz.func49, Tryz.ntmps49
  go_wp2_with fail
  refine (HSm.out _ HT.out.old).mono ?_; rintro e w0 ⟨rfl, hb⟩
  have HT0 := Lib.hid (HT.out.below hb)
  clear hb c0 c1 c2 f0 f1 f2 hl1 d0 d1 d2 g0 g1 g2 hl2 HSm
  obtain ⟨c0, c1, c2, f0, f1, f2, hl1⟩ := HT0.out.a.cells
  go_wp2_with fail
  go_loopw [31] (fun i wr => ∃ x : Nat, x ≤ n ∧ i = .int .i64 x ∧ Hid (Two w wr n S R m S2 R2) ∧ Hid (∀ z, z < x → (replyB (stOf n S R) la (stOf m S2 R2) lb k z).isSome = true)) (fun i _ => n - (intOf i).toNat)
  case atStart => exact ⟨0, by omega, rfl, HT0.out, fun j hj => by omega⟩
  case round =>
    obtain ⟨x, hx, rfl, HT2, HK⟩ := hrel
    clear c0 c1 c2 f0 f1 f2 hl1
    by_cases hlt : x < n
    · have j1 := R1.out x
      obtain ⟨p, hp⟩ := optV_form (replyB (stOf n S R) la (stOf m S2 R2) lb k x)
      rw [hp] at j1
      have HN := Lib.hid (fun h => moveV_a (noRep_at (k := k) (a := stOf n S R) (la := la) (b := stOf m S2 R2) (lb := lb) (x := x) hlt HK.out h))
      obtain ⟨c, hc⟩ : ∃ c, (replyB (stOf n S R) la (stOf m S2 R2) lb k x).isSome = c := ⟨_, rfl⟩
      rw [hc] at j1 HN
      have HC := Lib.hid hc
      have J1 := Lib.hid j1
      clear j1 hc hp
      obtain ⟨c0, c1, c2, f0, f1, f2, hl1⟩ := HT2.out.a.cells
      obtain ⟨d0, d1, d2, g0, g1, g2, hl2⟩ := HT2.out.b.cells
      cases c
      · go_wp2_with fail
        refine (J1.out _ HT2.out.old hlt).mono ?_; rintro e w1 ⟨rfl, hb⟩
        have HT3 := Lib.hid (HT2.out.below hb); clear hb
        go_wp2_with fail
        go_ret3
        exact ⟨ret_v (by rw [← HRES.out]; exact (HN.out (by simp)).symm), HT3.out.old⟩
      · go_wp2_with fail
        refine (J1.out _ HT2.out.old hlt).mono ?_; rintro e w1 ⟨rfl, hb⟩
        have HT3 := Lib.hid (HT2.out.below hb); clear hb
        go_wp2_with fail
        go_roundw
        case rel =>
          refine ⟨x + 1, by omega, by go_num, HT3.out, fun z hz => ?_⟩
          by_cases hzy : z = x
          · rw [hzy]; exact HC.out
          · exact HK.out z (by omega)
        case measure => simp [intOf]; omega
    · obtain ⟨d0, d1, d2, g0, g1, g2, hl2⟩ := HT2.out.b.cells
      have HK1 : Hid (noRep (stOf n S R) la (stOf m S2 R2) lb k = none) := noRep_none fun z hz => HK.out z (by have hz : z < n := hz; omega)
      clear HK HT HT0
      go_wp2_with fail
      go_loopw [50] (fun i wr => ∃ x : Nat, x ≤ m ∧ i = .int .i64 x ∧ Hid (Two w wr n S R m S2 R2) ∧ Hid (∀ z, z < x → (replyB (stOf m S2 R2) lb (stOf n S R) la k z).isSome = true)) (fun i _ => m - (intOf i).toNat)
      case atStart => exact ⟨0, by omega, rfl, HT2.out, fun j hj => by omega⟩
      case round =>
        obtain ⟨y, hy, rfl, HT4, HK⟩ := hrel
        clear d0 d1 d2 g0 g1 g2 hl2
        by_cases hlt2 : y < m
        · have j1 := RR2.out y
          obtain ⟨p, hp⟩ := optV_form (replyB (stOf m S2 R2) lb (stOf n S R) la k y)
          rw [hp] at j1
          have HN := Lib.hid (fun h => moveV_b HK1.out (noRep_at (k := k) (a := stOf m S2 R2) (la := lb) (b := stOf n S R) (lb := la) (x := y) hlt2 HK.out h))
          obtain ⟨c, hc⟩ : ∃ c, (replyB (stOf m S2 R2) lb (stOf n S R) la k y).isSome = c := ⟨_, rfl⟩
          rw [hc] at j1 HN
          have HC := Lib.hid hc
          have J1 := Lib.hid j1
          clear j1 hc hp
          obtain ⟨c0, c1, c2, f0, f1, f2, hl1⟩ := HT4.out.a.cells
          obtain ⟨d0, d1, d2, g0, g1, g2, hl2⟩ := HT4.out.b.cells
          cases c
          · go_wp2_with fail
            refine (J1.out _ HT4.out.old hlt2).mono ?_; rintro e w1 ⟨rfl, hb⟩
            have HT3 := Lib.hid (HT4.out.below hb); clear hb
            go_wp2_with fail
            go_ret3
            exact ⟨ret_v (by rw [← HRES.out]; exact (HN.out (by simp)).symm), HT3.out.old⟩
          · go_wp2_with fail
            refine (J1.out _ HT4.out.old hlt2).mono ?_; rintro e w1 ⟨rfl, hb⟩
            have HT3 := Lib.hid (HT4.out.below hb); clear hb
            go_wp2_with fail
            go_roundw
            case rel =>
              refine ⟨y + 1, by omega, by go_num, HT3.out, fun z hz => ?_⟩
              by_cases hzy : z = y
              · rw [hzy]; exact HC.out
              · exact HK.out z (by omega)
            case measure => simp [intOf]; omega
        · have HE : Hid (moveV (stOf n S R) la (stOf m S2 R2) lb k = .tuple #[.string ⟨#[]⟩, .int .i64 0, .bool false]) := moveV_no HK1.out (noRep_none fun z hz => HK.out z (by have hz : z < m := hz; omega))
          clear HK HK1
          go_wp2_with fail
          go_ret3
          exact ⟨ret_v (by rw [← HRES.out]; exact HE.out.symm), HT4.out.old⟩
end Go.Proofs.YtofmagiahmmmgaaGreatDoor
