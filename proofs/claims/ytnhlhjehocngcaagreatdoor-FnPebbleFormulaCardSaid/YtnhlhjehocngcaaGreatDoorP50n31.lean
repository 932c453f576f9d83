/- Contracts of the program's functions and what they compute: part 31. Conditions: those that each theorem states. -/
import Derived.Test.YtnhlhjehocngcaaGreatDoorP50n27
import Derived.Test.YtnhlhjehocngcaaGreatDoorP50n30
import Derived.Test.YtnhlhjehocngcaaGreatDoorP50n2
namespace Go.Proofs.YtnhlhjehocngcaaGreatDoor
open Go.RowKit
set_option linter.unusedVariables false
set_option maxRecDepth 100000
theorem FOK_all : ∀ t, FOK t
  | 0 => l7Formula_zero
  | t + 1 => l7Formula_succ t (FOK_all t) (l7Move_ok t (FOK_all t))
theorem szF_le3 {t : Nat} (h : t ≤ 3) : szF t ≤ 2851 := by
  match t, h with
  | 0, _ => decide
  | 1, _ => decide
  | 2, _ => decide
  | 3, _ => decide
set_option maxHeartbeats 4000000 in
theorem specPebbleFormula_any (n m : Int) (S R S2 R2 : ByteArray) (L M : List Int) (K : Int) (v u : Value) (w : World) (hS : S.size ≤ 9223372036854775807) (hR : R.size ≤ 9223372036854775807) (hS2 : S2.size ≤ 9223372036854775807) (hR2 : R2.size ≤ 9223372036854775807) (hv : IntsAt w v L) (hu : IntsAt w u M) :
    Calls Tryz.prog 7 #[strV n S R, v, strV m S2 R2, u, .int .i64 K] w fun e w' => e = .returned (pfRes n S R L m S2 R2 M K) ∧ Below w.heap.size w w' := by
  have HT := Lib.hid (Bxp.new w n S R m S2 R2)
  unfold boxS at HT
  obtain ⟨c0, c1, c2, f0, f1, f2, hl1⟩ := HT.out.a.cells
  obtain ⟨d0, d1, d2, _, _, _, hl2⟩ := HT.out.b.cells
  have HRD := Lib.hid (fun W (hb : Below w.heap.size w W) => l7Ready_any n S R m S2 R2 L M v u W hS hR hS2 hR2 (hv.below hb) (hu.below hb))
  have HIN := Lib.hid (fun W => l1In_any K 0 3 W)
  have HVW := Lib.hid hv
  have HUW := Lib.hid hu
  cases hrd : pebRdB n S R L m S2 R2 M
  · have HRES : Hid (pfRes n S R L m S2 R2 M K = .tuple #[.string ByteArray.empty, .bool false]) := by unfold pfRes; rw [hrd]; rfl
    rw [HRES.out]
    rw [hrd] at HRD
    obtain ⟨a1, ca, rfl, _, _, _⟩ := hv.view
    obtain ⟨b1, cb, rfl, _, _, _⟩ := hu.view
    unfold strV at HRD
    unfold strV
    clear hrd hv hu
    go_enter Tryz.func7, Tryz.ntmps7
    go_wp2_with fail
    refine (HRD.out _ HT.out.old).mono ?_; rintro e w1 ⟨rfl, hb⟩
    have HT3 := Lib.hid (HT.out.below hb)
    clear hb c0 c1 c2 f0 f1 f2 hl1 d0 d1 d2 hl2
    go_wp2_with fail
    go_ret2
    exact ⟨rfl, HT3.out.old⟩
  · obtain ⟨nn, rfl⟩ := nat_of_validP (show validB n S R = true by unfold pebRdB at hrd; simp only [Bool.and_eq_true] at hrd; exact hrd.1)
    obtain ⟨mm, rfl⟩ := nat_of_validP (show validB m S2 R2 = true by unfold pebRdB at hrd; simp only [Bool.and_eq_true] at hrd; exact hrd.2.1)
    obtain ⟨hva, hvb, hrdy, hk1, hk3⟩ := ready_rdy hrd
    obtain ⟨hn1, hn8, hSz, hRz, _, _⟩ := valid_is hva
    obtain ⟨hm1, hm8, hSz2, hRz2, _, _⟩ := valid_is hvb
    rw [hrd] at HRD
    by_cases hK : 0 ≤ K ∧ K ≤ 3
    · obtain ⟨t, rfl⟩ := Int.eq_ofNat_of_zero_le hK.1
      have ht3 : t ≤ 3 := by omega
      rw [show inB (t : Int) 0 3 = true by rw [inB_iff]; omega] at HIN
      have HWN := Lib.hid (fun W (hb : Below w.heap.size w W) => l7Wins_any nn mm t S R S2 R2 L M v u W hSz hRz hSz2 hRz2 hn8 hm8 hk3 hrdy.len.symm ht3 (hv.below hb) (hu.below hb) hrdy.la hrdy.lb hrdy.sg)
      have HLV := Lib.hid (fun W => l7Levels_any nn mm L.length t S R S2 R2 W hSz hRz hSz2 hRz2 hn8 hm8 hk3 ht3)
      have HFO : Hid (∀ (va vb : Value) (cs ds : List (List Nat)) (W : World), Below w.heap.size w W → LevAt W va cs → LevAt W vb ds → Lf (stOf nn S R) (stOf mm S2 R2) nn mm L.length t cs ds → pwB (stOf nn S R) (stOf mm S2 R2) nn mm t L M = false → _) := fun va vb cs ds W hb hA hB hF hp => FOK_all t nn S R mm S2 R2 va vb cs ds t L M v u W ⟨hSz, hRz, hSz2, hRz2, hn8, hm8, hn1, hm1, hA, hB, hF, hv.below hb, hu.below hb, hrdy, hk3⟩ (Nat.le_refl _) ht3 hp
      have hpz : (pebF t (stOf nn S R) (stOf mm S2 R2) L M).size ≤ 2851 := Nat.le_trans (pebF_size t _ _ L M hn1 hn8 hm1 hm8) (szF_le3 ht3)
      obtain ⟨RV, hrv⟩ : ∃ r, pfRes nn S R L mm S2 R2 M (t : Int) = r := ⟨_, rfl⟩
      have HRV1 : Hid (pwB (stOf nn S R) (stOf mm S2 R2) nn mm t L M = true → RV = .tuple #[.string ByteArray.empty, .bool false]) := fun h => by
        rw [← hrv]; unfold pfRes
        rw [Int.toNat_natCast, Int.toNat_natCast, Int.toNat_natCast, h]; simp
      have HRV2 : Hid (pwB (stOf nn S R) (stOf mm S2 R2) nn mm t L M = false → RV = .tuple #[.string (pebF t (stOf nn S R) (stOf mm S2 R2) L M), .bool true]) := fun h => by
        rw [← hrv]; unfold pfRes
        rw [Int.toNat_natCast, Int.toNat_natCast, Int.toNat_natCast, h, hrd, decide_eq_true hK.1, decide_eq_true hK.2]; rfl
      rw [hrv]
      obtain ⟨a1, ca, rfl, _, _, _⟩ := hv.view
      obtain ⟨b1, cb, rfl, _, _, _⟩ := hu.view
      unfold l7V at HFO
      unfold strV at HRD HWN HLV
      unfold strV
      clear hva hvb hSz hRz hSz2 hRz2 hrdy hv hu hrd hrv hK HVW HUW
      generalize pebF t (stOf nn S R) (stOf mm S2 R2) L M = PF at *
      cases hpw : pwB (stOf nn S R) (stOf mm S2 R2) nn mm t L M
      · have HRV := Lib.hid (HRV2.out hpw)
        have HF2 := Lib.hid (fun va vb cs ds W h1 h2 h3 h4 => HFO.out va vb cs ds W h1 h2 h3 h4 hpw)
        rw [hpw] at HWN
        clear HRV1 HRV2 HFO hpw
        go_enter Tryz.func7, Tryz.ntmps7
        go_wp2_with fail
        refine (HRD.out _ HT.out.old).mono ?_; rintro e w1 ⟨rfl, hb⟩
        have HT1 := Lib.hid (HT.out.below hb)
        clear hb c0 c1 c2 f0 f1 f2 hl1 d0 d1 d2 hl2
        obtain ⟨c0, c1, c2, _⟩ := HT1.out.a.cells
        obtain ⟨d0, d1, d2, _⟩ := HT1.out.b.cells
        go_wp2_with fail
        refine (HIN.out _).mono ?_; rintro e w2 ⟨rfl, hw2⟩; subst hw2
        go_wp2_with fail
        refine (HWN.out _ HT1.out.old).mono ?_; rintro e w3 ⟨rfl, hb⟩
        have HT3 := Lib.hid (HT1.out.below hb)
        clear hb c0 c1 c2 d0 d1 d2 HT1
        obtain ⟨c0, c1, c2, _⟩ := HT3.out.a.cells
        obtain ⟨d0, d1, d2, _⟩ := HT3.out.b.cells
        go_wp2_with fail
        refine (HLV.out _).mono ?_; rintro e w4 ⟨va, vb, cs, ds, rfl, hA, hB, hF, hb⟩
        have HT4 := Lib.hid (HT3.out.below hb)
        have HF4 := Lib.hid (HF2.out va vb cs ds w4 HT4.out.old hA hB hF)
        obtain ⟨ga, capa, rfl, -⟩ := hA
        obtain ⟨gb, capb, rfl, -⟩ := hB
        clear hF hb c0 c1 c2 d0 d1 d2 HT3 HF2
        generalize cs.length = lc at *
        generalize ds.length = ld at *
        obtain ⟨c0, c1, c2, _⟩ := HT4.out.a.cells
        obtain ⟨d0, d1, d2, _⟩ := HT4.out.b.cells
        go_wp2_with fail
        refine HF4.out.mono ?_; rintro e w5 ⟨rfl, hb⟩
        have HT5 := Lib.hid (HT4.out.old.trans (hb.mono HT4.out.old.size))
        clear hb
        have hpzI : ¬ (4000 < (PF.size : Int)) := by omega
        go_wp2_with fail
        go_ret2
        exact ⟨by rw [HRV.out]; rfl, HT5.out⟩
      · have HRV := Lib.hid (HRV1.out hpw)
        rw [hpw] at HWN
        clear HRV1 HRV2 HFO hpw
        go_enter Tryz.func7, Tryz.ntmps7
        go_wp2_with fail
        refine (HRD.out _ HT.out.old).mono ?_; rintro e w1 ⟨rfl, hb⟩
        have HT1 := Lib.hid (HT.out.below hb)
        clear hb c0 c1 c2 f0 f1 f2 hl1 d0 d1 d2 hl2
        obtain ⟨c0, c1, c2, _⟩ := HT1.out.a.cells
        obtain ⟨d0, d1, d2, _⟩ := HT1.out.b.cells
        go_wp2_with fail
        refine (HIN.out _).mono ?_; rintro e w2 ⟨rfl, hw2⟩; subst hw2
        go_wp2_with fail
        refine (HWN.out _ HT1.out.old).mono ?_; rintro e w3 ⟨rfl, hb⟩
        have HT3 := Lib.hid (HT1.out.below hb)
        clear hb
        go_wp2_with fail
        go_ret2
        exact ⟨by rw [HRV.out]; rfl, HT3.out.old⟩
    · have HRES : Hid (pfRes nn S R L mm S2 R2 M K = .tuple #[.string ByteArray.empty, .bool false]) := by
        have : (decide (0 ≤ K) && decide (K ≤ 3)) = false := by
          rw [Bool.and_eq_false_iff, decide_eq_false_iff_not, decide_eq_false_iff_not]; omega
        unfold pfRes
        rw [hrd, Bool.true_and, this]; rfl
      rw [HRES.out]
      rw [show inB K 0 3 = false by
        cases h : inB K 0 3
        · rfl
        · rw [inB_iff] at h; exact absurd h hK] at HIN
      obtain ⟨a1, ca, rfl, _, _, _⟩ := hv.view
      obtain ⟨b1, cb, rfl, _, _, _⟩ := hu.view
      unfold strV at HRD
      unfold strV
      clear hrd hva hvb hrdy hv hu hK
      go_enter Tryz.func7, Tryz.ntmps7
      go_wp2_with fail
      refine (HRD.out _ HT.out.old).mono ?_; rintro e w1 ⟨rfl, hb⟩
      have HT3 := Lib.hid (HT.out.below hb)
      clear hb c0 c1 c2 f0 f1 f2 hl1 d0 d1 d2 hl2
      go_wp2_with fail
      refine (HIN.out _).mono ?_; rintro e w2 ⟨rfl, hw2⟩; subst hw2
      go_wp2_with fail
      go_ret2
      exact ⟨rfl, HT3.out.old⟩
end Go.Proofs.YtnhlhjehocngcaaGreatDoor

namespace Go.Proofs.YtnhlhjehocngcaaGreatDoor.Fm
set_option linter.unusedVariables false
/-- Quantifiers: all, some, at least two, three, four. -/
inductive Q | all | some | two | three | four
def Q.byte : Q → UInt8
  | .all => 65 | .some => 83 | .two => 50 | .three => 51 | .four => 52
def Q.rank : Q → Nat
  | .all => 1 | .some => 1 | .two => 2 | .three => 3 | .four => 4
/-- Of how many elements the formula must be true. -/
def Q.need (n : Nat) : Q → Nat
  | .all => n | .some => 1 | .two => 2 | .three => 3 | .four => 4
inductive T
  | lit (b : Bool)
  | set (v : Fin 4)
  | rel (e : Bool) (v w : Fin 4)
  | neg (f : T)
  | bin (o : Bool) (f g : T)
  | qu (q : Q) (v : Fin 4) (f : T)
/-- The letter of a variable. -/
def vb (v : Fin 4) : UInt8 := UInt8.ofNat (97 + v.val)
def text : T → List UInt8
  | .lit b => [if b then 116 else 102]
  | .set v => [80, vb v]
  | .rel e v w => [if e then 69 else 61, vb v, vb w]
  | .neg f => 33 :: text f
  | .bin o f g => (if o then 124 else 38) :: (text f ++ text g)
  | .qu q v f => q.byte :: vb v :: text f
def pvar : List UInt8 → Option (Fin 4 × List UInt8)
  | [] => none
  | c :: s => if c = 97 then some (0, s) else if c = 98 then some (1, s) else if c = 99 then some (2, s) else if c = 100 then some (3, s) else none
def quOf (c : UInt8) : Option Q :=
  if c = 65 then some .all else if c = 83 then some .some else if c = 50 then some .two else if c = 51 then some .three else if c = 52 then some .four else none
/-- The formula with which a text begins, and what is behind it. -/
def parse : Nat → List UInt8 → Option (T × List UInt8)
  | 0, _ => none
  | _ + 1, [] => none
  | n + 1, c :: s =>
    if c = 116 then some (.lit true, s)
    else if c = 102 then some (.lit false, s)
    else if c = 80 then (pvar s).bind fun p => some (.set p.1, p.2)
    else if c = 61 then (pvar s).bind fun p => (pvar p.2).bind fun q => some (.rel false p.1 q.1, q.2)
    else if c = 69 then (pvar s).bind fun p => (pvar p.2).bind fun q => some (.rel true p.1 q.1, q.2)
    else if c = 33 then (parse n s).bind fun p => some (.neg p.1, p.2)
    else if c = 38 then (parse n s).bind fun p => (parse n p.2).bind fun q => some (.bin false p.1 q.1, q.2)
    else if c = 124 then (parse n s).bind fun p => (parse n p.2).bind fun q => some (.bin true p.1 q.1, q.2)
    else (quOf c).bind fun k => (pvar s).bind fun p => (parse n p.2).bind fun q => some (.qu k p.1 q.1, q.2)
theorem vb_cases (v : Fin 4) : vb v = 97 ∧ v = 0 ∨ vb v = 98 ∧ v = 1 ∨ vb v = 99 ∧ v = 2 ∨ vb v = 100 ∧ v = 3 := by
  match v with
  | 0 => exact .inl ⟨rfl, rfl⟩
  | 1 => exact .inr (.inl ⟨rfl, rfl⟩)
  | 2 => exact .inr (.inr (.inl ⟨rfl, rfl⟩))
  | 3 => exact .inr (.inr (.inr ⟨rfl, rfl⟩))
theorem pvar_vb (v : Fin 4) (s : List UInt8) : pvar (vb v :: s) = some (v, s) := by
  rcases vb_cases v with ⟨h, rfl⟩ | ⟨h, rfl⟩ | ⟨h, rfl⟩ | ⟨h, rfl⟩ <;> rfl
theorem pvar_some {s r : List UInt8} {v : Fin 4} (h : pvar s = some (v, r)) : s = vb v :: r := by
  cases s with
  | nil => simp [pvar] at h
  | cons c s =>
    simp only [pvar] at h
    by_cases h1 : c = 97
    · rw [if_pos h1] at h; simp at h; obtain ⟨rfl, rfl⟩ := h; rw [h1]; rfl
    rw [if_neg h1] at h
    by_cases h2 : c = 98
    · rw [if_pos h2] at h; simp at h; obtain ⟨rfl, rfl⟩ := h; rw [h2]; rfl
    rw [if_neg h2] at h
    by_cases h3 : c = 99
    · rw [if_pos h3] at h; simp at h; obtain ⟨rfl, rfl⟩ := h; rw [h3]; rfl
    rw [if_neg h3] at h
    by_cases h4 : c = 100
    · rw [if_pos h4] at h; simp at h; obtain ⟨rfl, rfl⟩ := h; rw [h4]; rfl
    rw [if_neg h4] at h
    cases h
theorem quOf_byte (q : Q) : quOf q.byte = some q := by cases q <;> rfl
theorem quOf_some {c : UInt8} {q : Q} (h : quOf c = some q) : c = q.byte := by
  unfold quOf at h
  split at h
  · rename_i e; simp at h; rw [← h]; exact e
  · split at h
    · rename_i e; simp at h; rw [← h]; exact e
    · split at h
      · rename_i e; simp at h; rw [← h]; exact e
      · split at h
        · rename_i e; simp at h; rw [← h]; exact e
        · split at h
          · rename_i e; simp at h; rw [← h]; exact e
          · simp at h
theorem text_pos (φ : T) : 1 ≤ (text φ).length := by cases φ <;> simp [text]
theorem parse_qu (n : Nat) (q : Q) (s : List UInt8) : parse (n + 1) (q.byte :: s) = (pvar s).bind fun p => (parse n p.2).bind fun r => some (.qu q p.1 r.1, r.2) := by
  cases q <;> rfl
/-- A formula's text is read. -/
theorem parse_text : ∀ (φ : T) (n : Nat) (r : List UInt8), (text φ).length ≤ n → parse n (text φ ++ r) = some (φ, r)
  | φ, 0, r, h => absurd (text_pos φ) (by omega)
  | .lit b, n + 1, r, h => by cases b <;> rfl
  | .set v, n + 1, r, h => by
    show (pvar (vb v :: r)).bind _ = _
    rw [pvar_vb]; rfl
  | .rel e v w, n + 1, r, h => by
    cases e
    · show (pvar (vb v :: vb w :: r)).bind _ = _
      rw [pvar_vb]; show (pvar (vb w :: r)).bind _ = _; rw [pvar_vb]; rfl
    · show (pvar (vb v :: vb w :: r)).bind _ = _
      rw [pvar_vb]; show (pvar (vb w :: r)).bind _ = _; rw [pvar_vb]; rfl
  | .neg f, n + 1, r, h => by
    show (parse n (text f ++ r)).bind _ = _
    rw [parse_text f n r (by simp [text] at h; omega)]; rfl
  | .bin o f g, n + 1, r, h => by
    have h1 : (text f).length ≤ n ∧ (text g).length ≤ n := by simp [text] at h; omega
    cases o
    · show (parse n ((text f ++ text g) ++ r)).bind _ = _
      rw [List.append_assoc, parse_text f n _ h1.1]; show (parse n (text g ++ r)).bind _ = _; rw [parse_text g n _ h1.2]; rfl
    · show (parse n ((text f ++ text g) ++ r)).bind _ = _
      rw [List.append_assoc, parse_text f n _ h1.1]; show (parse n (text g ++ r)).bind _ = _; rw [parse_text g n _ h1.2]; rfl
  | .qu q v f, n + 1, r, h => by
    show parse (n + 1) (q.byte :: vb v :: (text f ++ r)) = _
    rw [parse_qu, pvar_vb]; show (parse n (text f ++ r)).bind _ = _
    rw [parse_text f n r (by simp [text] at h; omega)]; rfl
/-- What is read is a formula's text. -/
theorem parse_some : ∀ (n : Nat) {s r : List UInt8} {φ : T}, parse n s = some (φ, r) → s = text φ ++ r := by
  intro n
  induction n with
  | zero => intro s r φ h; simp [parse] at h
  | succ n ih =>
    intro s r φ h
    cases s with
    | nil => simp [parse] at h
    | cons c s =>
      unfold parse at h
      split at h
      · rename_i e; simp at h; obtain ⟨rfl, rfl⟩ := h; rw [e]; rfl
      split at h
      · rename_i e; simp at h; obtain ⟨rfl, rfl⟩ := h; rw [e]; rfl
      split at h
      · rename_i e
        obtain ⟨⟨v, t⟩, h1, h2⟩ := Option.bind_eq_some_iff.1 h
        simp at h2; obtain ⟨rfl, rfl⟩ := h2; rw [e, pvar_some h1]; rfl
      split at h
      · rename_i e
        obtain ⟨⟨v, t⟩, h1, h2⟩ := Option.bind_eq_some_iff.1 h
        obtain ⟨⟨w, t2⟩, h3, h4⟩ := Option.bind_eq_some_iff.1 h2
        simp at h4; obtain ⟨rfl, rfl⟩ := h4; have h3 := pvar_some h3; simp only at h3; rw [e, pvar_some h1, h3]; rfl
      split at h
      · rename_i e
        obtain ⟨⟨v, t⟩, h1, h2⟩ := Option.bind_eq_some_iff.1 h
        obtain ⟨⟨w, t2⟩, h3, h4⟩ := Option.bind_eq_some_iff.1 h2
        simp at h4; obtain ⟨rfl, rfl⟩ := h4; have h3 := pvar_some h3; simp only at h3; rw [e, pvar_some h1, h3]; rfl
      split at h
      · rename_i e
        obtain ⟨⟨f, t⟩, h1, h2⟩ := Option.bind_eq_some_iff.1 h
        simp at h2; obtain ⟨rfl, rfl⟩ := h2; rw [e, ih h1]; rfl
      split at h
      · rename_i e
        obtain ⟨⟨f, t⟩, h1, h2⟩ := Option.bind_eq_some_iff.1 h
        obtain ⟨⟨g, t2⟩, h3, h4⟩ := Option.bind_eq_some_iff.1 h2
        simp at h4; obtain ⟨rfl, rfl⟩ := h4; have h3 := ih h3; simp only at h3; rw [e, ih h1, h3]; simp [text]
      split at h
      · rename_i e
        obtain ⟨⟨f, t⟩, h1, h2⟩ := Option.bind_eq_some_iff.1 h
        obtain ⟨⟨g, t2⟩, h3, h4⟩ := Option.bind_eq_some_iff.1 h2
        simp at h4; obtain ⟨rfl, rfl⟩ := h4; have h3 := ih h3; simp only at h3; rw [e, ih h1, h3]; simp [text]
      obtain ⟨q, h0, h⟩ := Option.bind_eq_some_iff.1 h
      obtain ⟨⟨v, t⟩, h1, h2⟩ := Option.bind_eq_some_iff.1 h
      obtain ⟨⟨f, t2⟩, h3, h4⟩ := Option.bind_eq_some_iff.1 h2
      simp at h4; obtain ⟨rfl, rfl⟩ := h4; have h3 := ih h3; simp only at h3
      rw [quOf_some h0, pvar_some h1, h3]; rfl
theorem parse_lt {n : Nat} {s r : List UInt8} {φ : T} (h : parse n s = some (φ, r)) : r.length < s.length := by
  have h1 := parse_some n h
  have h2 := text_pos φ
  rw [h1, List.length_append]; omega
theorem parse_fuel {n m : Nat} {s : List UInt8} (hn : s.length ≤ n) (hm : s.length ≤ m) : parse n s = parse m s := by
  have key : ∀ {n m : Nat} {p : T × List UInt8}, s.length ≤ m → parse n s = some p → parse m s = some p := by
    rintro n m ⟨φ, r⟩ hm h
    have h1 := parse_some n h
    subst h1
    exact parse_text φ m r (by rw [List.length_append] at hm; omega)
  cases h : parse n s with
  | some p => rw [key hm h]
  | none =>
    cases h2 : parse m s with
    | none => rfl
    | some p => rw [key hn h2] at h; cases h
/-- The formula that a text is. -/
def read (s : List UInt8) : Option T := if 4000 < s.length then none else (parse s.length s).bind fun p => if p.2 = [] then some p.1 else none
theorem read_iff {s : List UInt8} {φ : T} : read s = some φ ↔ s = text φ ∧ s.length ≤ 4000 := by
  unfold read
  split
  · rename_i h
    constructor
    · intro h; cases h
    · rintro ⟨_, h2⟩; omega
  · rename_i h
    constructor
    · intro h1
      obtain ⟨⟨ψ, r⟩, h2, h3⟩ := Option.bind_eq_some_iff.1 h1
      have h4 := parse_some _ h2
      by_cases hr : r = []
      · subst hr
        simp at h3
        subst h3
        exact ⟨by simpa using h4, by omega⟩
      · simp [hr] at h3
    · rintro ⟨rfl, h2⟩
      have := parse_text φ (text φ).length [] (Nat.le_refl _)
      rw [List.append_nil] at this
      rw [this]; rfl
theorem text_inj {φ ψ : T} (h : text φ = text ψ) : φ = ψ := by
  have h1 := parse_text φ (text φ).length [] (Nat.le_refl _)
  have h2 := parse_text ψ (text φ).length [] (by rw [h]; exact Nat.le_refl _)
  rw [← h, h1] at h2
  simp at h2
  exact h2
/-- The free variables, as bits. -/
def free : T → Nat
  | .lit _ => 0
  | .set v => 1 <<< v.val
  | .rel _ v w => 1 <<< v.val ||| 1 <<< w.val
  | .neg f => free f
  | .bin _ f g => free f ||| free g
  | .qu _ v f => free f &&& (15 ^^^ 1 <<< v.val)
/-- All variables, as bits. -/
def vars : T → Nat
  | .lit _ => 0
  | .set v => 1 <<< v.val
  | .rel _ v w => 1 <<< v.val ||| 1 <<< w.val
  | .neg f => vars f
  | .bin _ f g => vars f ||| vars g
  | .qu _ v f => 1 <<< v.val ||| vars f
def rank : T → Nat
  | .lit _ => 0
  | .set _ => 0
  | .rel _ _ _ => 0
  | .neg f => rank f
  | .bin _ f g => max (rank f) (rank g)
  | .qu q _ f => rank f + q.rank
theorem bit_lt (v : Fin 4) : 1 <<< v.val < 16 := by revert v; decide
theorem or_lt {a b : Nat} (ha : a < 16) (hb : b < 16) : a ||| b < 16 := Nat.or_lt_two_pow (n := 4) ha hb
theorem free_lt : ∀ φ : T, free φ < 16
  | .lit _ => (by decide : 0 < 16)
  | .set v => bit_lt v
  | .rel _ v w => or_lt (bit_lt v) (bit_lt w)
  | .neg f => free_lt f
  | .bin _ f g => or_lt (free_lt f) (free_lt g)
  | .qu _ v f => Nat.lt_of_le_of_lt Nat.and_le_left (free_lt f)
theorem vars_lt : ∀ φ : T, vars φ < 16
  | .lit _ => (by decide : 0 < 16)
  | .set v => bit_lt v
  | .rel _ v w => or_lt (bit_lt v) (bit_lt w)
  | .neg f => vars_lt f
  | .bin _ f g => or_lt (vars_lt f) (vars_lt g)
  | .qu _ v f => or_lt (bit_lt v) (vars_lt f)
theorem bit_has (v u : Fin 4) : (1 <<< v.val).testBit u.val = decide (v = u) := by revert v u; decide
theorem has_rem (s : Nat) (hs : s < 16) (v u : Fin 4) : (s &&& (15 ^^^ 1 <<< v.val)).testBit u.val = (s.testBit u.val && decide (v ≠ u)) := by
  have h : ∀ (s : Fin 16) (v u : Fin 4), (s.val &&& (15 ^^^ 1 <<< v.val)).testBit u.val = (s.val.testBit u.val && decide (v ≠ u)) := by decide
  exact h ⟨s, hs⟩ v u
/-- Elements for the variables. -/
abbrev Env := Fin 4 → Nat
def upd (e : Env) (v : Fin 4) (x : Nat) : Env := fun u => if u = v then x else e u
/-- How many of the first numbers there are. -/
def cnt (p : Nat → Bool) : Nat → Nat
  | 0 => 0
  | n + 1 => cnt p n + (if p n then 1 else 0)
theorem cnt_congr {p q : Nat → Bool} : ∀ {n : Nat}, (∀ x, x < n → p x = q x) → cnt p n = cnt q n
  | 0, _ => rfl
  | n + 1, h => by unfold cnt; rw [cnt_congr (fun x hx => h x (by omega)), h n (by omega)]
/-- When a formula is true. -/
def holds (a : Gs.St) : T → Env → Bool
  | .lit b, _ => b
  | .set v, e => a.s (e v)
  | .rel true v w, e => a.r (e v) (e w)
  | .rel false v w, e => decide (e v = e w)
  | .neg f, e => !holds a f e
  | .bin true f g, e => holds a f e || holds a g e
  | .bin false f g, e => holds a f e && holds a g e
  | .qu q v f, e => decide (q.need a.n ≤ cnt (fun x => holds a f (upd e v x)) a.n)
/-- It is so by its free variables alone. -/
theorem holds_congr (a : Gs.St) : ∀ (φ : T) {e e' : Env}, (∀ u : Fin 4, (free φ).testBit u.val = true → e u = e' u) → holds a φ e = holds a φ e'
  | .lit _, e, e', h => rfl
  | .set v, e, e', h => by
    have := h v (by show (1 <<< v.val).testBit v.val = true; rw [bit_has]; simp)
    simp only [holds, this]
  | .rel b v w, e, e', h => by
    have h1 := h v (by show (1 <<< v.val ||| 1 <<< w.val).testBit v.val = true; rw [Nat.testBit_or, bit_has, bit_has]; simp)
    have h2 := h w (by show (1 <<< v.val ||| 1 <<< w.val).testBit w.val = true; rw [Nat.testBit_or, bit_has, bit_has]; simp)
    cases b <;> simp only [holds, h1, h2]
  | .neg f, e, e', h => by simp only [holds]; rw [holds_congr a f h]
  | .bin o f g, e, e', h => by
    have h1 := holds_congr a f (e := e) (e' := e') (fun u hu => h u (by show (free f ||| free g).testBit u.val = true; rw [Nat.testBit_or, hu]; rfl))
    have h2 := holds_congr a g (e := e) (e' := e') (fun u hu => h u (by show (free f ||| free g).testBit u.val = true; rw [Nat.testBit_or, hu]; simp))
    cases o <;> simp only [holds, h1, h2]
  | .qu q v f, e, e', h => by
    simp only [holds]
    rw [cnt_congr (q := fun x => holds a f (upd e' v x)) (fun x _ => holds_congr a f (fun u hu => ?_))]
    unfold upd
    split
    · rfl
    · rename_i hne
      refine h u ?_
      show (free f &&& (15 ^^^ 1 <<< v.val)).testBit u.val = true
      rw [has_rem _ (free_lt f), hu]
      simp
      exact fun e => hne e.symm
end Go.Proofs.YtnhlhjehocngcaaGreatDoor.Fm
namespace Go.Proofs.YtnhlhjehocngcaaGreatDoor.Fm
set_option linter.unusedVariables false
/-- Which variable stands in place of each one. -/
abbrev M := Fin 4 → Fin 4
def taken (s : Nat) (m : M) (v w : Fin 4) : Bool :=
  (s.testBit 0 && decide ((0 : Fin 4) ≠ v) && decide (m 0 = w)) || (s.testBit 1 && decide ((1 : Fin 4) ≠ v) && decide (m 1 = w)) || (s.testBit 2 && decide ((2 : Fin 4) ≠ v) && decide (m 2 = w)) || (s.testBit 3 && decide ((3 : Fin 4) ≠ v) && decide (m 3 = w))
/-- The variable that a quantifier binds. -/
def fresh (v : Fin 4) (s : Nat) (m : M) : Option (Fin 4) :=
  if taken s m v v then
    if taken s m v 0 then if taken s m v 1 then if taken s m v 2 then if taken s m v 3 then none else some 3 else some 2 else some 1 else some 0
  else some v
def fput (m : M) (v u : Fin 4) : M := fun x => if x = v then u else m x
/-- Other variables in place of the free ones. -/
def put : T → M → Option T
  | .lit b, _ => some (.lit b)
  | .set v, m => some (.set (m v))
  | .rel e v w, m => some (.rel e (m v) (m w))
  | .neg f, m => (put f m).map .neg
  | .bin o f g, m => (put f m).bind fun a => (put g m).map fun b => .bin o a b
  | .qu q v f, m => (fresh v (free f) m).bind fun u => (put f (fput m v u)).map (.qu q u)
theorem free_bin (o : Bool) (f g : T) (u : Fin 4) : (free (.bin o f g)).testBit u.val = ((free f).testBit u.val || (free g).testBit u.val) := by
  show (free f ||| free g).testBit u.val = _
  rw [Nat.testBit_or]
theorem free_qu (q : Q) (v : Fin 4) (f : T) (u : Fin 4) : (free (.qu q v f)).testBit u.val = ((free f).testBit u.val && decide (v ≠ u)) := has_rem _ (free_lt f) v u
end Go.Proofs.YtnhlhjehocngcaaGreatDoor.Fm
namespace Go.Proofs.YtnhlhjehocngcaaGreatDoor.Fm
set_option linter.unusedVariables false
def len (φ : T) : Nat := (text φ).length
end Go.Proofs.YtnhlhjehocngcaaGreatDoor.Fm
namespace Go.Proofs.YtnhlhjehocngcaaGreatDoor.Fm
set_option linter.unusedVariables false
/-- The elements of the first variables, none for the others. -/
def env1 (x : Nat) : Env := fun u => if u = 0 then x else 0
def env2 (x y : Nat) : Env := fun u => if u = 0 then x else if u = 1 then y else 0
/-- The structure that two formulas define. -/
def view (a : Gs.St) (ps pr : T) : Gs.St := ⟨a.n, fun x => holds a ps (env1 x), fun x y => holds a pr (env2 x y)⟩
end Go.Proofs.YtnhlhjehocngcaaGreatDoor.Fm
