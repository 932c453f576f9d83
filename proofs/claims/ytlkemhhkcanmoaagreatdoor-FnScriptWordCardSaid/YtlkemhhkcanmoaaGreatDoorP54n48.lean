/- The walk of the law, and what it leans on last. Conditions: those that each theorem states. -/
import Derived.Test.YtlkemhhkcanmoaaGreatDoorP54n18
import Derived.Test.YtlkemhhkcanmoaaGreatDoorP54n37
import Derived.Test.YtlkemhhkcanmoaaGreatDoorP54n42
import Derived.Test.YtlkemhhkcanmoaaGreatDoorP54n43
import Derived.Test.YtlkemhhkcanmoaaGreatDoorP54n44
import Derived.Calls
import Derived.Control
import Derived.Test.YtlkemhhkcanmoaaGreatDoorP54n1
import Derived.Deep.Quiet
import Derived.Test.YtlkemhhkcanmoaaGreatDoorP54n39
import Derived.Test.YtlkemhhkcanmoaaGreatDoorP54n40
import Derived.Test.YtlkemhhkcanmoaaGreatDoorP54n41
namespace Go.Proofs.YtlkemhhkcanmoaaGreatDoor
open Go.RowKit
set_option linter.unusedVariables false
set_option maxRecDepth 100000
/-- Whether two elements are not told apart. -/
def clsF (a : Gs.St) (k x y : Nat) : Bool := Gs.wins k a [x] a [y]
theorem one_nums (w : World) (x : Nat) : NumsAt (w.alloc (.cells #[.int .i64 (x : Int)] 3)) (.slice (some ⟨w.heap.size, 0, none⟩) 1 1) [x] := by
  refine .inr ⟨w.heap.size, 0, 1, rfl, Nat.le_refl _, by decide, by simp, fun j hj => ?_⟩
  obtain rfl : j = 0 := by simpa using hj
  rw [World.cell?_alloc_new]
  rfl
set_option maxHeartbeats 1000000 in
theorem clsOf1_any (n k x y : Nat) (S R : ByteArray) (p q : Nat) (w : World) (hn : n ≤ 8) (hS : S.size = n) (hR : R.size = n * n) (hk : k ≤ 3) (hx : x < n) (hy : y < n) (hp : SBlk w p n S R) (hq : w.cell? ⟨q, 0, none⟩ = some (.int .i64 (k : Int))) :
    Calls Tryz.prog 33 #[.int .i64 (x : Int), .int .i64 (y : Int), .pointer (some ⟨p, 0, none⟩), .pointer (some ⟨q, 0, none⟩)] w fun e w' => e = .returned (.bool (clsF (stOf n S R) k x y)) ∧ Below w.heap.size w w' := by
  have hlq := World.block_lt_of_cell? _ _ hq
  have hb1 : Below w.heap.size w (w.alloc (.cells #[.int .i64 (x : Int)] 3)) := (Below.refl _ _).alloc (Nat.le_refl _) _
  have hb2 : Below w.heap.size w ((w.alloc (.cells #[.int .i64 (x : Int)] 3)).alloc (.cells #[.int .i64 (y : Int)] 3)) := hb1.alloc hb1.size _
  have HC : Hid (Calls Tryz.prog 34 #[strV n S R, .slice (some ⟨w.heap.size, 0, none⟩) 1 1, strV n S R, .slice (some ⟨w.heap.size + 1, 0, none⟩) 1 1, .int .i64 (k : Int)] ((w.alloc (.cells #[.int .i64 (x : Int)] 3)).alloc (.cells #[.int .i64 (y : Int)] 3)) fun e w' => e = .returned (.bool (clsF (stOf n S R) k x y)) ∧ Below ((w.alloc (.cells #[.int .i64 (x : Int)] 3)).alloc (.cells #[.int .i64 (y : Int)] 3)).heap.size ((w.alloc (.cells #[.int .i64 (x : Int)] 3)).alloc (.cells #[.int .i64 (y : Int)] 3)) w') := by
    have h1 := (one_nums w x).below ((Below.refl _ _).alloc (Nat.le_refl _) (.cells #[.int .i64 (y : Int)] 3))
    have h2 := one_nums (w.alloc (.cells #[.int .i64 (x : Int)] 3)) y
    rw [World.size_alloc] at h2
    exact secondWins_any n S R n S R _ _ [x] [y] k _ ⟨hS, hR, hn, hS, hR, hn, rfl, by simp; omega, fun z hz => by rw [List.mem_singleton.1 hz]; exact hx, fun z hz => by rw [List.mem_singleton.1 hz]; exact hy⟩ h1 h2
  have HB2 := Lib.hid hb2
  obtain ⟨s0, s1, s2, _, _, _, hl⟩ := hp.cells
  have HS1 := (hp.below hb1 hl).cells
  obtain ⟨t0, t1, t2, _, _, _, _⟩ := HS1
  have hq1 := (hb1.cell (p := ⟨q, 0, none⟩) hlq).trans hq
  have hq2 := (hb2.cell (p := ⟨q, 0, none⟩) hlq).trans hq
  obtain ⟨r0, r1, r2, _, _, _, _⟩ := (hp.below hb2 hl).cells
  unfold strV at HC
  clear hp hb1 hb2 hS hR hn
  generalize clsF (stOf n S R) k x y = b at *
  go_enter Tryz.func33, Tryz.ntmps33
  go_wp2_with fail
  refine HC.out.mono ?_; rintro e w1 ⟨rfl, hb⟩
  have HB := Lib.hid (HB2.out.trans (hb.mono HB2.out.size))
  clear hb
  go_wp2_with fail
  go_ret
  exact ⟨rfl, HB.out⟩
set_option maxHeartbeats 1000000 in
theorem ClassesOf_any (n k : Nat) (S R : ByteArray) (hv : validB n S R = true) (hk : k ≤ 3) (w : World) :
    Calls Tryz.prog 12 #[strV n S R, .int .i64 (k : Int)] w (ListO (clsN (clsF (stOf n S R) k) n).1 w) := by
  obtain ⟨h1, h8, hS, hR, _, _⟩ := valid_is hv
  have hnn : n * n ≤ 64 := Nat.mul_le_mul h8 h8
  have HIS : Hid (∀ w, Calls Tryz.prog 27 #[strV n S R] w fun e w' => e = .returned (.bool true) ∧ Below w.heap.size w w') := fun w => by
    have := isStructure_any n S R w (by omega) (by rw [hR]; omega)
    rw [hv] at this
    exact this
  have HC1 := Lib.hid (fun x y p q w hx hy hp hq => clsOf1_any n k x y S R p q w h8 hS hR hk hx hy hp hq)
  have HCB := Lib.hid (fun kf c f w hkf hf => classesBy_any n h8 kf c f w hkf hf)
  have hb0 : Below w.heap.size w (boxS w n S R) := boxS_below _ _ _ _
  have hsz : (boxS w n S R).heap.size = w.heap.size + 1 := by simp [boxS]
  have HP : Hid (SBlk ((boxS w n S R).alloc (.cells #[.int .i64 (k : Int)] 3)) w.heap.size n S R ∧ ((boxS w n S R).alloc (.cells #[.int .i64 (k : Int)] 3)).cell? ⟨w.heap.size + 1, 0, none⟩ = some (.int .i64 (k : Int)) ∧ Below w.heap.size w ((boxS w n S R).alloc (.cells #[.int .i64 (k : Int)] 3))) := by
    have hs := boxS_SBlk w n S R
    refine ⟨hs.below ((Below.refl _ _).alloc (Nat.le_refl _) _) hs.cells.2.2.2.2.2.2, ?_, hb0.alloc hb0.size _⟩
    rw [← hsz, World.cell?_alloc_new]
    rfl
  obtain ⟨W, hW⟩ : ∃ W, (boxS w n S R).alloc (.cells #[.int .i64 (k : Int)] 3) = W := ⟨_, rfl⟩
  rw [hW] at HP
  unfold boxS at hW
  have HW := Lib.hid hW
  have hk3I : ¬ (3 : Int) < (k : Int) := by omega
  have hk0I : ¬ (k : Int) < 0 := by omega
  have hk3B : decide ((3 : Int) < (k : Int)) = false := decide_eq_false hk3I
  have hk0B : decide ((k : Int) < 0) = false := decide_eq_false hk0I
  clear hW hb0 hsz hS hR hv hnn
  unfold strV at HIS
  unfold strV
  go_enter Tryz.func12, Tryz.ntmps12
  go_upto_region 1 with fail
  rw [HW.out]
  obtain ⟨s0, s1, s2, _, _, _, hl⟩ := HP.out.1.cells
  have c1 := HP.out.2.1
  go_wp2_with fail
  refine (HIS.out _).mono ?_; rintro e w1 ⟨rfl, hb⟩
  have HP1 : Hid (SBlk w1 w.heap.size n S R ∧ w1.cell? ⟨w.heap.size + 1, 0, none⟩ = some (.int .i64 (k : Int)) ∧ Below w.heap.size w w1) := ⟨HP.out.1.below hb hl, (hb.cell (World.block_lt_of_cell? _ _ c1)).trans c1, HP.out.2.2.trans (hb.mono HP.out.2.2.size)⟩
  clear hb s0 s1 s2 hl c1 HP HW
  obtain ⟨s0, s1, s2, _, _, _, hl⟩ := HP1.out.1.cells
  have c1 := HP1.out.2.1
  go_wp2_with fail
  refine (HCB.out 33 #[.pointer (some ⟨w.heap.size, 0, none⟩), .pointer (some ⟨w.heap.size + 1, 0, none⟩)] (clsF (stOf n S R) k) w1 (fun _ _ => by kernel_rfl) (fun x y W' hx hy hb => HC1.out x y w.heap.size (w.heap.size + 1) W' hx hy (HP1.out.1.below hb HP1.out.1.cells.2.2.2.2.2.2) ((hb.cell (World.block_lt_of_cell? _ _ HP1.out.2.1)).trans HP1.out.2.1))).mono ?_
  rintro e w2 ⟨v, rfl, ho, hb⟩
  have HF : Hid (ListO (clsN (clsF (stOf n S R) k) n).1 w (.returned v) w2) := ⟨v, rfl, ho.monoN HP1.out.2.2.size, HP1.out.2.2.trans (hb.mono HP1.out.2.2.size)⟩
  clear ho hb
  go_wp2_with fail
  go_ret
  exact HF.out
set_option maxHeartbeats 1000000 in
theorem asked_classes (w0 : World) (ht : Tab w0) (a : DS) (n k : Nat) (hn : a.n = (n : Int)) (hk : k ≤ 3) (hv : validB n a.S a.R = true) : AskedOK w0 ⟨#[99, 108, 97, 115, 115, 101, 115]⟩ k a (numsB (clsN (clsF (stOf n a.S a.R) k) n).1) := by
  intro W d hd hB hD
  obtain ⟨h1, h8, _, _, _, _⟩ := valid_is hv
  have HC := Lib.hid (fun w => ClassesOf_any n k a.S a.R hv hk w)
  rw [← hn] at HC
  unfold strV at HC
  obtain ⟨l1, l2, l3⟩ := clsN_len (clsF (stOf n a.S a.R) k) n
  have HLL : Hid ((clsN (clsF (stOf n a.S a.R) k) n).1.length ≤ 100 ∧ ∀ x ∈ (clsN (clsF (stOf n a.S a.R) k) n).1, x ≤ 1000000) := ⟨by omega, fun x hx => by have := l3 x hx; omega⟩
  obtain ⟨L, hL⟩ : ∃ L, (clsN (clsF (stOf n a.S a.R) k) n).1 = L := ⟨_, rfl⟩
  rw [hL] at HC HLL ⊢
  have HD : Hid (DeskAt W d a) := hD
  have HT : Hid (Tab W) := ht.below hB (Nat.le_refl _)
  obtain ⟨c0, c1, c2, c3, c4, c5, c6, cf⟩ := hD.cells
  have hkI : (k : Int) ≤ 3 := by omega
  have hk0 : (0 : Int) ≤ (k : Int) := by omega
  have hkB : decide ((0 : Int) ≤ (k : Int)) = true := decide_eq_true hk0
  have hkB3 : decide ((k : Int) ≤ 3) = true := decide_eq_true hkI
  clear cf hD hB hv l1 l2 l3 hL hn
  generalize hb : a = b at HD ⊢
  obtain ⟨n1, S1, R1, m1, T1, U1, fo⟩ := a
  simp only at *
  clear hb
  go_enter Tryz.func122, Tryz.ntmps122
  go_wp2_with fail
  refine (HC.out _).mono ?_; rintro e w1 ⟨v, rfl, ho, hb⟩
  have HF := Lib.hid (implFmt_nums v L w1 ho.nums HLL.out.1 HLL.out.2 (HT.out.below hb (Nat.le_refl _)))
  have HD1 : Hid (DeskAt w1 d b ∧ Off (fun x => x = d) W w1) := ⟨HD.out.below hb, Off.of_below hb⟩
  clear hb ho
  go_wp2_with fail
  refine HF.out.mono ?_; rintro e w2 ⟨rfl, hb⟩
  have HD2 : Hid (DeskAt w2 d b ∧ Off (fun x => x = d) W w2) := ⟨HD1.out.1.below hb, HD1.out.2.trans (Off.of_below (F := fun _ => False) hb) (fun _ h => h.elim)⟩
  clear hb
  go_wp2_with fail
  go_ret
  exact ⟨rfl, HD2.out⟩
end Go.Proofs.YtlkemhhkcanmoaaGreatDoor
namespace Go.Proofs.YtlkemhhkcanmoaaGreatDoor
open Go.RowKit
set_option linter.unusedVariables false
set_option maxRecDepth 100000
theorem bits_mem {s : ByteArray} {n : Int} (h : bitsB s n = true) : ∀ c ∈ s.data.toList, c = 48 ∨ c = 49 := by
  intro c hc
  simp only [bitsB, Bool.and_eq_true, List.all_eq_true] at h
  have := h.2 c hc
  unfold is01 at this
  simpa using this
theorem fmt_mem {n : Nat} {S R : ByteArray} (hv : validB n S R = true) : ∀ c ∈ (fmtS S R).data.toList, c = 48 ∨ c = 49 ∨ c = 58 := by
  obtain ⟨_, _, _, _, hS, hR⟩ := valid_is hv
  intro c hc
  simp only [fmtS, ByteArray.data_append, Array.toList_append, List.mem_append] at hc
  rcases hc with (hc | hc) | hc
  · rcases bits_mem hS c hc with h | h <;> simp [h]
  · simp at hc; simp [hc]
  · rcases bits_mem hR c hc with h | h <;> simp [h]
theorem fmt_no {n : Nat} {S R : ByteArray} (hv : validB n S R = true) : (10 : UInt8) ∉ (fmtS S R).data.toList := by
  intro h
  rcases fmt_mem hv 10 h with h | h | h <;> exact absurd h (by decide)
theorem fmt_size {n : Nat} {S R : ByteArray} (hv : validB n S R = true) : (fmtS S R).size ≤ 73 := by
  obtain ⟨h1, h8, hS, hR, _, _⟩ := valid_is hv
  have hnn : n * n ≤ 64 := Nat.mul_le_mul h8 h8
  have h58 : (⟨#[58]⟩ : ByteArray).size = 1 := rfl
  unfold fmtS
  rw [ByteArray.size_append, ByteArray.size_append]
  omega
end Go.Proofs.YtlkemhhkcanmoaaGreatDoor

namespace Go.Proofs.YtlkemhhkcanmoaaGreatDoor
open Go
/-- A frame that goes on nowhere: behind what it waits for stands a test of no truth value. -/
def stuckFrame : Frame := { fn := 0, tmps := #[], todo := [.beginRound, .code (.cond (.const undef) .skip .skip)], defers := [], mode := .run, kind := .normal }
theorem stuck_stays (P : Program) (v : Value) (w m : _) : step P (lone (stuckFrame.finish v) [] w) ≠ .next m := by
  intro h
  have e : step P (lone (stuckFrame.finish v) [] w) = .ended (.stuck "cond: bool expected" ((stuckFrame.finish v).pos P)) w := by
    refine step_lone_ended ?_
    rfl
  rw [e] at h
  cases h
theorem runN_add {P : Program} : ∀ (n k : Nat) {m m1 : Machine}, runN P n m = .next m1 → runN P (n + k) m = runN P k m1
  | 0, k, m, m1, h => by
    have : m = m1 := by
      unfold runN at h
      injection h
    rw [this, Nat.zero_add]
  | n + 1, k, m, m1, h => by
    rw [Nat.succ_add]
    have e1 : runN P (n + 1) m = match step P m with | .next m => runN P n m | e => e := rfl
    have e2 : runN P (n + k + 1) m = match step P m with | .next m => runN P (n + k) m | e => e := rfl
    rw [e1] at h
    rw [show Nat.succ (n + k) = n + k + 1 from rfl, e2]
    cases hs : step P m with
    | next m' =>
      rw [hs] at h
      exact runN_add n k h
    | _ => rw [hs] at h; cases h
theorem leave_last {P : Program} {fr1 fr2 : Frame} {w1 w2 : World} {v1 : Value} (h1 : fr1.leaving P w1 (.returned v1)) : ∀ k, runN P k (lone fr1 [stuckFrame] w1) = .next (lone fr2 [stuckFrame] w2) → fr1 = fr2 ∧ w1 = w2
  | 0, h => by
    unfold runN at h
    injection h with h
    unfold lone at h
    simp at h
    exact ⟨h.2, h.1⟩
  | 1, h => by
    unfold runN at h
    rw [step_leave_returned h1] at h
    unfold runN at h
    injection h with h
    unfold lone at h
    simp at h
  | k + 2, h => by
    unfold runN at h
    rw [step_leave_returned h1] at h
    simp only at h
    unfold runN at h
    cases hs : step P (lone (stuckFrame.finish v1) [] w1) with
    | next m => exact absurd hs (stuck_stays P v1 w1 m)
    | _ => rw [hs] at h; cases h
theorem calls_val {P : Program} {f : FuncId} {args : Array Value} {w : World} {v1 v2 : Value} {R1 R2 : World → Prop} (h1 : Calls P f args w fun e w' => e = .returned v1 ∧ R1 w') (h2 : Calls P f args w fun e w' => e = .returned v2 ∧ R2 w') : v1 = v2 := by
  obtain ⟨e1, w1, fr1, ⟨he1, _⟩, c1, _, l1⟩ := h1 [stuckFrame]
  obtain ⟨e2, w2, fr2, ⟨he2, _⟩, c2, _, l2⟩ := h2 [stuckFrame]
  subst he1; subst he2
  obtain ⟨n, hn⟩ := c1
  obtain ⟨k, hk⟩ := c2
  have same : fr1 = fr2 ∧ w1 = w2 := by
    rcases Nat.le_total n k with h | h
    · obtain ⟨d, rfl⟩ := Nat.exists_eq_add_of_le h
      rw [runN_add n d hn] at hk
      exact leave_last l1 d hk
    · obtain ⟨d, rfl⟩ := Nat.exists_eq_add_of_le h
      rw [runN_add k d hk] at hn
      have := leave_last l2 d hn
      exact ⟨this.1.symm, this.2.symm⟩
  obtain ⟨rfl, rfl⟩ := same
  obtain ⟨_, _, _, fn, hf, hr⟩ := l1
  obtain ⟨_, _, _, fn', hf', hr'⟩ := l2
  rw [hf] at hf'
  injection hf' with hf'
  subst hf'
  rw [hr] at hr'
  injection hr' with hr' _
end Go.Proofs.YtlkemhhkcanmoaaGreatDoor
namespace Go.Proofs.YtlkemhhkcanmoaaGreatDoor
open Go.RowKit
set_option linter.unusedVariables false
section
variable {P : Program} {ops : Array Oper} {md : Region.Mode} {Q : Exit → Act → World → Prop}
/-- Memory is made, nothing else turns. -/
def RS (w w' : World) : Prop := ∃ s : Since w, w' = s.w
theorem RS.of {w w' : World} (h : Below w.heap.size w w') : RS w w' := ⟨⟨w', h⟩, rfl⟩
theorem RS.below {w w' : World} (h : RS w w') : Below w.heap.size w w' := by obtain ⟨s, rfl⟩ := h; exact s.below
theorem RS.refl (w : World) : RS w w := .of (Below.refl _ _)
theorem RS.trans {a b c : World} (h : RS a b) (k : RS b c) : RS a c := .of (h.below.trans (k.below.mono h.below.size))
/-- Whatever order is picked from here on, memory being made between. -/
def wpU (P : Program) (md : Region.Mode) (ops : Array Oper) (Q : Exit → Act → World → Prop) : Nat → Array Bool → Act → World → Prop
  | 0, done, a, w => Region.ready md ops done = [] ∧ ∀ w', RS w w' → Q .normal a w'
  | f + 1, done, a, w => (Region.ready md ops done = [] → ∀ w', RS w w' → Q .normal a w') ∧
    ∀ i ∈ Region.ready md ops done, ∀ w', RS w w' → wpOp P ops Q i (fun a' w2 => RS w' w2 ∧ wpU P md ops Q f (done.setIfInBounds i true) a' w2) a w'
theorem wpU.up : ∀ {f : Nat} {done : Array Bool} {a : Act} {w w' : World}, wpU P md ops Q f done a w → RS w w' → wpU P md ops Q f done a w'
  | 0, _, _, _, _, h, hw => ⟨h.1, fun w2 hr => h.2 w2 (hw.trans hr)⟩
  | f + 1, _, _, _, _, h, hw => ⟨fun h0 w2 hr => h.1 h0 w2 (hw.trans hr), fun i hi w2 hr => h.2 i hi w2 (hw.trans hr)⟩
theorem wpAny_of_U : ∀ (f : Nat) (done : Array Bool) (a : Act) (w : World), wpU P md ops Q f done a w → wpAny P md ops Q f done a w
  | 0, _, _, w, h => ⟨h.1, h.2 w (.refl w)⟩
  | f + 1, _, _, w, h => ⟨fun h0 => h.1 h0 w (.refl w), fun i hi => wpOp_mono (fun a' w' h' => wpAny_of_U f _ a' w' h'.2) (h.2 i hi w (.refl w))⟩
/-- The class of worlds in which memory has been made since. -/
def SinceC (w : World) : World → Prop := fun w2 => ∃ s : Since w, w2 = s.w
/-- One value, whatever memory has been made. -/
def YieldsR (P : Program) (ops : Array Oper) (o : Oper) (v : Value) (a : Act) (w : World) : Prop :=
  (Region.wanted o (yielded ops a.tmps) = true ∧ ∀ w', RS w w' → o.quietAt P a (SinceC w') w' v) ∨ (Region.wanted o (yielded ops a.tmps) = false ∧ v = undef)
theorem YieldsR.up {o : Oper} {v : Value} {a : Act} {w w' : World} (h : YieldsR P ops o v a w) (hw : RS w w') : YieldsR P ops o v a w' :=
  h.imp (fun h => ⟨h.1, fun w2 hr => h.2 w2 (hw.trans hr)⟩) id
theorem YieldsR.of_same {o : Oper} {v : Value} {a a' : Act} {w : World} (hy : YieldsR P ops o v a w) (he : execOp a'.eval o = execOp a.eval o)
    (hw : Region.wanted o (yielded ops a'.tmps) = Region.wanted o (yielded ops a.tmps)) : YieldsR P ops o v a' w := by
  unfold YieldsR Oper.quietAt at *
  rw [he, hw]
  exact hy
theorem YieldsR.wpOp {i : Nat} {o : Oper} {v : Value} {a : Act} {w w' : World} (hi : ops[i]? = some o) (hy : YieldsR P ops o v a w) (hw : RS w w') {K : Act → World → Prop} (h : ∀ w2, RS w' w2 → K (a.put o.dst v) w2) : wpOp P ops Q i K a w' := by
  unfold Go.wpOp
  simp only [hi]
  rcases hy with ⟨hwa, hv⟩ | ⟨hwa, rfl⟩
  · simp only [hwa, if_true]
    left
    have h3 := hv w' hw
    unfold Oper.quietAt at h3
    unfold Oper.wp
    generalize (execOp a.eval o).run P w' = r at *
    cases r with
    | ok n w1 =>
      cases n <;> simp only [Oper.quietUpon] at h3 <;> simp only [Oper.upon]
      case value u =>
        obtain ⟨e1, e2⟩ := h3
        rw [e1, e2]
        exact h _ (.refl _)
      case skip =>
        obtain ⟨e1, e2⟩ := h3
        rw [e1, ← e2]
        exact h _ (.refl _)
      case enter f args =>
        obtain ⟨e1, hc⟩ := h3
        rw [e1]
        exact hc.mono fun e w2 ⟨he, hw2⟩ => by subst he; exact h _ hw2
    | halt x w1 => simp only [Oper.quietUpon] at h3
  · simp only [hwa, Bool.false_eq_true, if_false]
    exact h _ (.refl _)
/-- An operation apart from another one: what is so of a frame with the other's value is so without it. -/
theorem wpOp_putY {j : Nat} {oi oj : Oper} {v : Value} {Y : Act → Prop} (hj : ops[j]? = some oj) (hap : oi.apart ops oj = true) (hsj : ∀ cs b, oj.op ≠ .select cs b)
    (hQ : ∀ c (a : Act) d v w, Q (.panic c) (a.put d v) w → Q (.panic c) a w) (hY : ∀ a u, Y a → Y (a.put oj.dst u)) (hYd : ∀ (a : Act) d, Y a → Y { a with defers := d :: a.defers })
    {K : Act → World → Prop} {a : Act} {w : World} (ha : Y a) (h : wpOp P ops Q j K (a.put oi.dst v) w) : wpOp P ops Q j (fun a' w' => Y a' ∧ K (a'.put oi.dst v) w') a w := by
  obtain ⟨h1, h2, h3⟩ := Oper.apart_spec hap
  unfold Go.wpOp at *
  simp only [hj] at *
  rw [wanted_put oj a oi.dst v h1] at h
  by_cases hw : Region.wanted oj (yielded ops a.tmps) = true
  · simp only [hw, if_true] at h ⊢
    rcases h with h | ⟨h4, h5⟩
    · left
      unfold Oper.wp at *
      rw [execOp_put oj hsj a oi.dst v h1] at h
      generalize (execOp a.eval oj).run P w = r at *
      cases r with
      | ok n w1 =>
        cases n <;> simp only [Oper.upon] at h ⊢
        case value u => exact ⟨hY _ _ ha, by rw [← Act.put_comm a v u h2]; exact h⟩
        case skip => exact ⟨hY _ _ ha, by rw [← Act.put_comm a v undef h2]; exact h⟩
        case defer d =>
          refine ⟨hY _ _ (hYd _ _ ha), ?_⟩
          rw [← Act.put_comm _ v undef h2, ← Act.put_defers]
          exact h
        case enter f args =>
          refine Calls.mono h fun e w2 he => ?_
          cases e with
          | returned u => exact ⟨hY _ _ ha, by rw [← Act.put_comm a v u h2]; exact he⟩
          | panicked c => exact hQ _ _ _ _ _ he
          | outgrown => exact he
        case row row args => exact Rows.mono h fun u w2 he => ⟨hY _ _ ha, by rw [← Act.put_comm a v u h2]; exact he⟩
      | halt x w1 =>
        cases x <;> simp only [Oper.upon] at h ⊢
        case panic u => exact hQ _ _ _ _ _ h
    · right
      exact ⟨by unfold Oper.asks at *; rw [execOp_put oj hsj a oi.dst v h1] at h4; exact h4, h5⟩
  · simp only [hw] at h ⊢
    exact ⟨hY _ _ ha, by rw [← Act.put_comm a v undef h2]; exact h⟩
/-- What yields one value whatever memory is made may be taken first. -/
theorem wpU_first {i : Nat} {oi : Oper} {v : Value} (hi : ops[i]? = some oi) (hsel : ∀ (j : Nat) (o : Oper) cs b, ops[j]? = some o → o.op ≠ .select cs b)
    (hQ : ∀ c (a : Act) d v w, Q (.panic c) (a.put d v) w → Q (.panic c) a w) :
    ∀ (f : Nat) (done : Array Bool) (a : Act) (w : World),
      (∀ j oj, ops[j]? = some oj → j ≠ i → done.getD j true = false → (∀ e ∈ oj.after, Region.binds md e = true → e.on ≠ i) → oi.apart ops oj = true) →
      i ∈ Region.ready md ops done → YieldsR P ops oi v a w → wpU P md ops Q f (done.setIfInBounds i true) (a.put oi.dst v) w → wpU P md ops Q (f + 1) done a w := by
  intro f
  induction f with
  | zero =>
    intro done a w _ hr hy H
    refine ⟨fun h => (by rw [h] at hr; cases hr), fun j hj w' hw => ?_⟩
    by_cases hji : j = i
    · subst hji
      exact hy.wpOp hi hw fun w2 h2 => ⟨h2, H.up (hw.trans h2)⟩
    · have := ready_mono hj hji
      rw [H.1] at this
      cases this
  | succ f ih =>
    intro done a w hfree hr hy H
    refine ⟨fun h => (by rw [h] at hr; cases hr), fun j hj w' hw => ?_⟩
    by_cases hji : j = i
    · subst hji
      exact hy.wpOp hi hw fun w2 h2 => ⟨h2, H.up (hw.trans h2)⟩
    · have h1 := H.2 j (ready_mono hj hji) w' hw
      obtain ⟨hjun, oj, hoj, hall⟩ := mem_ready.1 hj
      have hnot : ∀ e ∈ oj.after, Region.binds md e = true → e.on ≠ i := by
        rintro e he hb rfl
        have h2 := hall e he hb
        have h0 := (mem_ready.1 hr).1
        rcases Nat.lt_or_ge e.on done.size with h' | h'
        · simp [h'] at h0 h2; rw [h0] at h2; cases h2
        · simp [Array.getElem?_eq_none h'] at h2
      have hap := hfree j oj hoj hji hjun hnot
      obtain ⟨_, _, hs3⟩ := Oper.apart_spec hap
      have h2 := wpOp_putY (Y := fun a' => YieldsR P ops oi v a' w) hoj hap (fun cs b => hsel j oj cs b hoj) hQ
        (fun a u hy => hy.of_same (execOp_put oi (fun cs b => hsel i oi cs b hi) a oj.dst u hs3) (wanted_put oi a oj.dst u hs3)) (fun a d hy => hy.of_same rfl rfl) hy h1
      have hfree' : ∀ k ok, ops[k]? = some ok → k ≠ i → (done.setIfInBounds j true).getD k true = false → (∀ e ∈ ok.after, Region.binds md e = true → e.on ≠ i) → oi.apart ops ok = true := fun k ok hk hki hun hno => by
        refine hfree k ok hk hki ?_ hno
        by_cases hjk : j = k
        · subst hjk; exact hjun
        · rw [getD_set_ne true hjk] at hun; exact hun
      refine wpOp_mono (fun a' w2 h3 => ⟨h3.2.1, ih (done.setIfInBounds j true) a' w2 hfree' (ready_mono hr (Ne.symm hji)) (h3.1.up (hw.trans h3.2.1)) ?_⟩) h2
      rw [Array.setIfInBounds_comm _ _ hji]
      exact h3.2.2
/-- Some operations, each in its turn, may be taken first. -/
def batchB (md : Region.Mode) (ops : Array Oper) : List Nat → Array Bool → Bool
  | [], _ => true
  | i :: l, done => (Region.ready md ops done).contains i && Region.free md ops done i && batchB md ops l (done.setIfInBounds i true)
def setAll : List Nat → Array Bool → Array Bool
  | [], done => done
  | i :: l, done => setAll l (done.setIfInBounds i true)
theorem quiet_val {o : Oper} {a : Act} {w : World} {C1 C2 : World → Prop} {v1 v2 : Value} (h1 : o.quietAt P a C1 w v1) (h2 : o.quietAt P a C2 w v2) : v1 = v2 := by
  unfold Oper.quietAt at h1 h2
  generalize (execOp a.eval o).run P w = r at *
  cases r with
  | ok n w1 =>
    cases n <;> simp only [Oper.quietUpon] at h1 h2
    case value u => exact h1.2.symm.trans h2.2
    case skip => exact h1.2.trans h2.2.symm
    case enter f args => exact calls_val h1.2 h2.2
  | halt x w1 => simp only [Oper.quietUpon] at h1
theorem wpU_batch (hs : Region.noSelect ops = true) (hQ : ∀ c (a : Act) d v w, Q (.panic c) (a.put d v) w → Q (.panic c) a w) {f : Nat} : ∀ (idx : List Nat) (l : List Oper) (done : Array Bool) (a : Act) (w : World), idx.map (fun i => ops[i]?) = l.map some → batchB md ops idx done = true →
    (∀ w', RS w w' → ∀ K : Act → Prop, (∀ a', wpU P md ops Q f (setAll idx done) a' w → K a') → wpQuiet P ops (SinceC w') K l a) → wpU P md ops Q (f + idx.length) done a w
  | [], [], done, a, w, _, _, h => h w (.refl w) (fun a' => wpU P md ops Q f done a' w) (fun _ h => h)
  | [], _ :: _, _, _, _, h, _, _ => by simp at h
  | _ :: _, [], _, _, _, h, _, _ => by simp at h
  | i :: idx, o :: l, done, a, w, hl, hB, h => by
    have h0 : ops[i]? = some o := by simpa using (List.cons.inj hl).1
    have hl' : idx.map (fun i => ops[i]?) = l.map some := (List.cons.inj hl).2
    simp only [batchB, Bool.and_eq_true] at hB
    obtain ⟨⟨hr, hf⟩, hB'⟩ := hB
    have hfree := Region.free_spec h0 hf
    have hrm : i ∈ Region.ready md ops done := by simpa using hr
    by_cases hw : Region.wanted o (yielded ops a.tmps) = true
    · have hq : ∀ w', RS w w' → ∀ K : Act → Prop, (∀ a', wpU P md ops Q f (setAll (i :: idx) done) a' w → K a') → o.quiet P a (SinceC w') (wpQuiet P ops (SinceC w') K l) := fun w' hw' K hK => by
        have := h w' hw' K hK
        unfold wpQuiet at this
        rw [if_pos hw] at this
        exact this
      obtain ⟨v, hv, _⟩ := hq w (.refl w) (fun _ => True) (fun _ _ => trivial)
      have same : ∀ w' (hw' : RS w w') v', (∀ w2, SinceC w' w2 → o.quietAt P a (SinceC w') w2 v') → v' = v := fun w' hw' v' hv' => quiet_val (hv' w' ⟨Since.refl w', rfl⟩) (hv w' hw')
      have hy : YieldsR P ops o v a w := .inl ⟨hw, fun w' hw' => by
        obtain ⟨v', hv', _⟩ := hq w' hw' (fun _ => True) (fun _ _ => trivial)
        rw [← same w' hw' v' hv']
        exact hv' w' ⟨Since.refl w', rfl⟩⟩
      refine wpU_first h0 (Region.noSelect_spec hs) hQ (f + idx.length) done a w hfree hrm hy ?_
      refine wpU_batch hs hQ idx l _ _ w hl' hB' fun w' hw' K hK => ?_
      obtain ⟨v', hv', hn⟩ := hq w' hw' K hK
      rw [same w' hw' v' hv'] at hn
      exact hn
    · have hw' : Region.wanted o (yielded ops a.tmps) = false := by simpa using hw
      refine wpU_first h0 (Region.noSelect_spec hs) hQ (f + idx.length) done a w hfree hrm (.inr ⟨hw', rfl⟩) ?_
      refine wpU_batch hs hQ idx l _ _ w hl' hB' fun w1 hw1 K hK => ?_
      have := h w1 hw1 K hK
      unfold wpQuiet at this
      rw [if_neg hw] at this
      exact this
theorem wpU_batch_at (n f : Nat) (idx : List Nat) (l : List Oper) {done : Array Bool} {a : Act} {w : World} (hn : n = f + idx.length) (hs : Region.noSelect ops = true) (hQ : ∀ c (a : Act) d v w, Q (.panic c) (a.put d v) w → Q (.panic c) a w) (hl : idx.map (fun i => ops[i]?) = l.map some) (hB : batchB md ops idx done = true)
    (h : ∀ w', RS w w' → ∀ K : Act → Prop, (∀ a', wpU P md ops Q f (setAll idx done) a' w → K a') → wpQuiet P ops (fun w2 => ∃ s : Since w', w2 = s.w) K l a) : wpU P md ops Q n done a w := by
  rw [hn]
  exact wpU_batch hs hQ idx l done a w hl hB h
theorem seg_ops (L : List Oper) (s k : Nat) (h : s + k ≤ L.length) : ((List.range k).map (· + s)).map (fun i => L.toArray[i]?) = ((L.drop s).take k).map some := by
  apply List.ext_getElem?
  intro i
  simp only [List.getElem?_map, List.getElem?_take, List.getElem?_drop, List.getElem?_toArray]
  by_cases hi : i < k
  · simp only [List.getElem?_range hi, Option.map_some, if_pos hi]
    rw [Nat.add_comm i s, List.getElem?_eq_getElem (by omega)]
    rfl
  · rw [List.getElem?_eq_none (by simpa using hi), if_neg hi]
    rfl
/-- A piece of the text, in its order. -/
theorem wpU_seg {L : List Oper} (n f s k : Nat) {done : Array Bool} {a : Act} {w : World} (hn : n = f + k) (hk : s + k ≤ L.length) (hs : Region.noSelect L.toArray = true) (hQ : ∀ c (a : Act) d v w, Q (.panic c) (a.put d v) w → Q (.panic c) a w) (hB : batchB md L.toArray ((List.range k).map (· + s)) done = true)
    (h : ∀ w', RS w w' → ∀ K : Act → Prop, (∀ a', wpU P md L.toArray Q f (setAll ((List.range k).map (· + s)) done) a' w → K a') → wpQuiet P L.toArray (fun w2 => ∃ s : Since w', w2 = s.w) K ((L.drop s).take k) a) : wpU P md L.toArray Q n done a w :=
  wpU_batch_at n f _ _ (by rw [hn]; simp) hs hQ (seg_ops L s k hk) hB h
/-- The only operation that may come up. -/
theorem wpU_only {f i : Nat} {o : Oper} {done : Array Bool} {a : Act} {w : World} (ho : ops[i]? = some o) (hr : Region.ready md ops done = [i]) (hw : Region.wanted o (yielded ops a.tmps) = true)
    (h : ∀ w', RS w w' → o.wp P a w' (fun a' w2 => RS w' w2 ∧ wpU P md ops Q f (done.setIfInBounds i true) a' w2) Q) : wpU P md ops Q (f + 1) done a w :=
  ⟨fun h0 => (by rw [hr] at h0; cases h0), fun j hj w' hw' => by
    rw [hr] at hj
    obtain rfl := List.mem_singleton.1 hj
    unfold Go.wpOp
    simp only [ho, hw, if_true]
    exact .inl (h w' hw')⟩
/-- The first of some operations is met. -/
def wpHead (P : Program) (md : Region.Mode) (ops : Array Oper) (Q : Exit → Act → World → Prop) (f s : Nat) (done : Array Bool) (a : Act) (w : World) : List Oper → Prop
  | [] => False
  | o :: _ => Region.wanted o (yielded ops a.tmps) = true ∧ o.wp P a w (fun a' w2 => RS w w2 ∧ wpU P md ops Q f (done.setIfInBounds s true) a' w2) Q
theorem wpU_at {L : List Oper} (n f s : Nat) {done : Array Bool} {a : Act} {w : World} (hn : n = f + 1) (hr : Region.ready md L.toArray done = [s])
    (h : ∀ w', RS w w' → wpHead P md L.toArray Q f s done a w' (L.drop s)) : wpU P md L.toArray Q n done a w := by
  rw [hn]
  cases hd : L.drop s with
  | nil =>
    have := h w (.refl w)
    rw [hd] at this
    exact this.elim
  | cons o r =>
    have ho : L.toArray[s]? = some o := by
      rw [List.getElem?_toArray]
      have : (L.drop s)[0]? = some o := by rw [hd]; rfl
      rw [List.getElem?_drop] at this
      exact this
    have hw : Region.wanted o (yielded L.toArray a.tmps) = true := by
      have := h w (.refl w)
      rw [hd] at this
      exact this.1
    refine wpU_only ho hr hw fun w' hw' => ?_
    have := h w' hw'
    rw [hd] at this
    exact this.2
theorem wp_enter {o : Oper} {a : Act} {w : World} {f : FuncId} {args : Array Value} {K : Act → World → Prop} (hr : (execOp a.eval o).run P w = .ok (.enter f args) w)
    (hc : Calls P f args w fun e w2 => ∃ v, e = .returned v ∧ K (a.put o.dst v) w2) : o.wp P a w K Q := by
  unfold Oper.wp
  rw [hr]
  exact hc.mono fun e w2 ⟨v, he, hk⟩ => by subst he; exact hk
theorem wp_region_U {id : Nat} {a : Act} {w : World} (hm : P.follows .mixedOrders = true) (h : wpU P .any ops Q ops.size (Array.replicate ops.size false) a w) : (Code.region id ops true).wp P Q a w :=
  wp_region_any hm (wpAny_of_U _ _ _ _ (h.up (.of ⟨rfl, rfl, rfl, Nat.le_refl _, fun _ _ => rfl⟩)))
end
end Go.Proofs.YtlkemhhkcanmoaaGreatDoor
namespace Go.Proofs.YtlkemhhkcanmoaaGreatDoor
open Go.RowKit
set_option linter.unusedVariables false
set_option maxRecDepth 100000
theorem rowLen54 {k : IntKind} {w : World} {a : Option Addr} {len cap : Nat} {zs : List Int} (h : IsRow k w a len cap zs) : len ≤ maxLen := by
  rcases h with ⟨_, h, _⟩ | ⟨_, _, h1, h2, _⟩
  · rw [h]; decide
  · omega
/-- What a sentence answers of a word. -/
structure Acc54 (f s : ByteArray) (b : Bool) : Prop where
  word : wordB s = true
  some : ∃ φ, readB f = .some φ ∧ Fm.free φ = 0 ∧ b = Fm.holds (wSt' s) φ (fun _ => 0)
theorem accW54 {f s : ByteArray} (h : (accW f s).2 = true) : Acc54 f s (accW f s).1 := by
  unfold accW at h ⊢
  by_cases hw : wordB s = true
  · rw [if_pos hw] at h ⊢
    unfold hin at h ⊢
    cases hr : readB f with
    | none => rw [hr] at h; simp at h
    | some φ =>
      rw [hr] at h
      by_cases h0 : Fm.free φ = 0
      · refine ⟨hw, φ, hr, h0, ?_⟩
        simp only [h0, if_true]; rfl
      · simp [h0] at h
  · rw [if_neg hw] at h; simp at h
def gsW (b : Bool) : ByteArray := truthB b ++ ⟨#[10]⟩
theorem gsWord_any (b : Bool) (w : World) : Calls Tryz.prog 10 #[.bool b] w fun e w' => e = .returned (.string (gsW b)) ∧ Below w.heap.size w w' := by
  cases b
  all_goals
    go_enter Tryz.func10, Tryz.ntmps10
    go_wp2_with fail
    go_ret
    exact ⟨rfl, Below.refl _ _⟩
theorem word_no {s : ByteArray} (h : wordB s = true) : (10 : UInt8) ∉ s.data.toList := by
  intro hm
  obtain ⟨i, hi, he⟩ := List.mem_iff_getElem.1 hm
  have := xy_let h hi
  rw [he] at this
  split at this <;> exact absurd this (by decide)
set_option maxHeartbeats 1000000 in
theorem fnScriptWord_walk (a0 : Option Addr) (len0 cap0 : Nat) (z0 : List Int) (w : World) (w0 : IsRow .u8 w a0 len0 cap0 z0) (ht : Tab w) :
    Calls Tryz.prog 3 #[.slice a0 len0 cap0] w fun e w' => e = .returned (.bool true) ∧ Below w.heap.size w w' := by
  have m0 := rowLen54 w0
  unfold maxLen at m0
  have W0 := Lib.hid w0; have HT := Lib.hid ht; clear w0 ht
  by_cases l0 : (len0 : Int) ≤ 1048576
  · go_enter Tryz.func3, Tryz.ntmps3
    go_wp2_with fail
    refine (DrawAcceptsWord_any _ _ _ _ _ W0.out).mono ?_; rintro e w1 ⟨f, s, hf, hs, rfl, hb⟩
    have HB1 := Lib.hid hb; clear hb
    have HI := Lib.hid (fun W => implAccepts_any f s (by omega) (by omega) W)
    have HS := Lib.hid (fun W => specAccepts_any f s (by omega) (by omega) W)
    have hA := fun h => accW54 (f := f) (s := s) h
    obtain ⟨b, hb⟩ : ∃ b, (accW f s).2 = b := ⟨_, rfl⟩
    obtain ⟨c, hc⟩ : ∃ b, (accW f s).1 = b := ⟨_, rfl⟩
    rw [hb] at HI HS hA
    rw [hc] at HI HS hA
    clear hb hc
    cases b
    · clear hA hf hs
      go_wp2_with fail
      refine (HI.out _).mono ?_; rintro e w2 ⟨rfl, hb⟩
      have HB2 := Lib.hid (HB1.out.trans (hb.mono HB1.out.size)); clear hb
      go_wp2_with fail
      refine (HS.out _).mono ?_; rintro e w3 ⟨rfl, hb⟩
      have HB3 := Lib.hid (HB2.out.trans (hb.mono HB2.out.size)); clear hb
      go_wp2_with fail
      go_ret
      exact ⟨rfl, HB3.out⟩
    · obtain ⟨hw, φ, hr, h0, hcv⟩ := hA rfl
      clear hA
      obtain ⟨h1, h8⟩ := word_size8 hw
      have hv : validB s.size (bitsOf (letB s) s.size) (gridOf ltB s.size) = true := valid_bits h1 h8 _ _
      have HWS := Lib.hid (fun w => implWordStructure_any s w (by omega))
      have hwr : wordRes s = .tuple #[strV s.size (bitsOf (letB s) s.size) (gridOf ltB s.size), .bool true] := by simp [wordRes, hw, wordV]
      rw [hwr] at HWS
      obtain ⟨_, _, vS, vR, _, _⟩ := valid_is hv
      have hnn : s.size * s.size ≤ 64 := Nat.mul_le_mul h8 h8
      have HDF := Lib.hid (fun w => implDefined_any ⟨#[80, 97]⟩ (by decide) s.size (bitsOf (letB s) s.size) (gridOf ltB s.size) (by omega) (by omega) w)
      have hds : defSet ⟨#[80, 97]⟩ s.size (bitsOf (letB s) s.size) (gridOf ltB s.size) = some (defTo (wSt' s) (.set 0) s.size) := by
        rw [defSet_some pa_is, if_pos ⟨hv, by decide⟩]
        rfl
      rw [hds] at HDF
      have HFS := Lib.hid (fun w => FormatStructure_any s.size (bitsOf (letB s) s.size) (gridOf ltB s.size) hv w)
      have HCL := Lib.hid (fun w => ClassesOf_any s.size 1 (bitsOf (letB s) s.size) (gridOf ltB s.size) hv (by decide) w)
      have HGW := Lib.hid (fun w => gsWord_any c w)
      have HLL : Hid ((defTo (wSt' s) (.set 0) s.size).length ≤ 8 ∧ ∀ x ∈ defTo (wSt' s) (.set 0) s.size, x ≤ 1000000) := ⟨by have := defTo_length (wSt' s) (.set 0) s.size; omega, fun x hx => by have := defTo_lt hx; omega⟩
      obtain ⟨cl1, cl2, cl3⟩ := clsN_len (clsF (stOf s.size (bitsOf (letB s) s.size) (gridOf ltB s.size)) 1) s.size
      have HCC : Hid ((clsN (clsF (stOf s.size (bitsOf (letB s) s.size) (gridOf ltB s.size)) 1) s.size).1.length ≤ 8 ∧ ∀ x ∈ (clsN (clsF (stOf s.size (bitsOf (letB s) s.size) (gridOf ltB s.size)) 1) s.size).1, x ≤ 1000000) := ⟨by omega, fun x hx => by have := cl3 x hx; omega⟩
      have hcls : ∀ (w0 : World) (ht : Tab w0) (a : DS), a.n = (s.size : Int) → a.S = bitsOf (letB s) s.size → a.R = gridOf ltB s.size → RunOK w0 ⟨#[99, 108, 97, 115, 115, 101, 115, 32, 49]⟩ a a (numsB (clsN (clsF (stOf s.size (bitsOf (letB s) s.size) (gridOf ltB s.size)) 1) s.size).1) := by
        intro w0 ht a hn hS hR
        have h1 := run_classes w0 ht a 1 (by decide) _ (asked_classes w0 ht a s.size 1 hn (by decide) (by rw [hS, hR]; exact hv))
        rw [hS, hR] at h1
        have e : (⟨#[99, 108, 97, 115, 115, 101, 115]⟩ ++ ⟨#[32]⟩ ++ itoS ((1 : Nat) : Int) : ByteArray) = ⟨#[99, 108, 97, 115, 115, 101, 115, 32, 49]⟩ := by
          rw [itoS_digit (by decide : 1 ≤ 9)]
          exact bytes_eq rfl
        rw [e] at h1
        exact h1
      have hfno := ge_no (read_ge hr)
      have hwno : (10 : UInt8) ∉ s.data.toList := word_no hw
      have HST := Lib.hid (fun w ht => word_steps w ht s f φ hw hr h0 _ (hcls w ht))
      have hfz := fmt_size hv
      have HF := Lib.hid (fmt_no hv)
      rw [← hcv] at HST
      obtain ⟨F, hF⟩ : ∃ F, fmtS (bitsOf (letB s) s.size) (gridOf ltB s.size) = F := ⟨_, rfl⟩
      rw [hF] at HST HFS hfz
      obtain ⟨L, hL⟩ : ∃ L, defTo (wSt' s) (.set 0) s.size = L := ⟨_, rfl⟩
      rw [hL] at HST HDF HLL
      obtain ⟨C, hC⟩ : ∃ C, (clsN (clsF (stOf s.size (bitsOf (letB s) s.size) (gridOf ltB s.size)) 1) s.size).1 = C := ⟨_, rfl⟩
      rw [hC] at HST HCL HCC
      have hzL := numsB_size L HLL.out.2
      have hzC := numsB_size C HCC.out.2
      have hl8 := HLL.out.1
      have hc8 := HCC.out.1
      have hzt := truthB_size c
      have hlines : (linesB (wordLines s f)).size ≤ 20000 := by
        rw [linesB_size]
        simp only [wordLines, List.map_cons, List.map_nil, List.sum_cons, List.sum_nil, ByteArray.size_append]
        show 5 + s.size + 1 + (8 + 1 + (5 + s.size + 1 + (4 + 1 + (8 + f.size + 1 + (5 + 1 + (10 + 1 + (3 + 1 + (9 + 1 + 0)))))))) ≤ 20000
        omega
      have houts : ∀ j, (outT ((wordAns F s c L C).take j)).size ≤ 40000 := fun j => by
        refine Nat.le_trans (outT_take _ j) ?_
        rw [outT_size]
        simp only [wordAns, List.map_cons, List.map_nil, List.sum_cons, List.sum_nil, ByteArray.size_append]
        show F.size + 1 + (3 + 1 + (F.size + 1 + (s.size + 1 + (2 + 1 + ((truthB c).size + 1 + (truthB c).size + 1 + (2 + 1 + ((numsB L).size + 1 + ((numsB C).size + 1 + 0)))))))) ≤ 40000
        omega
      have HRS := Lib.hid (fun w ht => RunScript_lines (wordLines s f) (wordAns F s c L C) (wordLines_no s f hwno hfno.1) (wordLines_ne s f) (by show 9 ≤ 99; omega) hlines houts w (HST.out w ht))
      rw [← wordScript] at HRS
      have HNL := Lib.hid (fun v w hv ht => implFmt_nums v L w hv (by omega) HLL.out.2 ht)
      have HNC := Lib.hid (fun v w hv ht => implFmt_nums v C w hv (by omega) HCC.out.2 ht)
      generalize bitsOf (letB s) s.size = S at *
      generalize gridOf ltB s.size = R at *
      have hsI : s.size ≤ 8 := h8
      clear hw hr h0 hcv hwr hv vS vR hds cl1 cl2 cl3 hcls hfno hwno HST hF HF hL hC hlines houts hnn
      clear HLL HCC
      unfold strV at HWS HDF HFS HCL
      go_wp2_with fail
      refine (HI.out _).mono ?_; rintro e w2 ⟨rfl, hb⟩
      have HB2 := Lib.hid (HB1.out.trans (hb.mono HB1.out.size)); clear hb
      go_wp2_with fail
      refine (HS.out _).mono ?_; rintro e w3 ⟨rfl, hb⟩
      have HB3 := Lib.hid (HB2.out.trans (hb.mono HB2.out.size)); clear hb HI HS
      go_wp2_with fail
      refine (HWS.out _).mono ?_; rintro e w4 ⟨rfl, hb⟩
      have HB4 := Lib.hid (HB3.out.trans (hb.mono HB3.out.size)); clear hb HWS
      have hb5 := boxS_below w4 s.size S R
      have HB5 : Hid (SBlk (boxS w4 s.size S R) w4.heap.size s.size S R ∧ Below w.heap.size w (boxS w4 s.size S R)) := ⟨boxS_SBlk _ _ _ _, HB4.out.trans (hb5.mono HB4.out.size)⟩
      clear hb5
      unfold boxS at HB5
      obtain ⟨s0, s1, s2, _, _, _, hl⟩ := HB5.out.1.cells
      go_wp2_with fail
      refine (HDF.out _).mono ?_; rintro e w6 ⟨hb, ⟨h, _⟩ | ⟨v, L', h, rfl, hn⟩⟩
      · cases h
      injection h with h
      subst h
      have HB6 : Hid (SBlk w6 w4.heap.size s.size S R ∧ NumsAt w6 v L ∧ Below w.heap.size w w6) := ⟨HB5.out.1.below hb hl, hn, HB5.out.2.trans (hb.mono HB5.out.2.size)⟩
      clear hb hn s0 s1 s2 hl HB5 HDF
      generalize hNL : numsB L = NL at *
      generalize hNC : numsB C = NC at *
      have ht1 : ((⟨#[119, 111, 114, 100, 32]⟩ : ByteArray) ++ s : ByteArray).size ≤ 1000 := by
        simp only [ByteArray.size_append]
        show 5 + s.size ≤ 1000
        omega
      have ht2 : ((⟨#[119, 111, 114, 100, 32]⟩ : ByteArray) ++ s ++ ⟨#[10, 101, 120, 99, 104, 97, 110, 103, 101, 10, 119, 111, 114, 100, 32]⟩ : ByteArray).size ≤ 1000 := by
        simp only [ByteArray.size_append]
        show 5 + s.size + 15 ≤ 1000
        omega
      have ht3 : ((⟨#[119, 111, 114, 100, 32]⟩ : ByteArray) ++ s ++ ⟨#[10, 101, 120, 99, 104, 97, 110, 103, 101, 10, 119, 111, 114, 100, 32]⟩ ++ s : ByteArray).size ≤ 1000 := by
        simp only [ByteArray.size_append]
        show 5 + s.size + 15 + s.size ≤ 1000
        omega
      have ht4 : ((⟨#[119, 111, 114, 100, 32]⟩ : ByteArray) ++ s ++ ⟨#[10, 101, 120, 99, 104, 97, 110, 103, 101, 10, 119, 111, 114, 100, 32]⟩ ++ s ++ ⟨#[10, 119, 111, 114, 100, 10, 102, 111, 114, 109, 117, 108, 97, 32]⟩ : ByteArray).size ≤ 1000 := by
        simp only [ByteArray.size_append]
        show 5 + s.size + 15 + s.size + 14 ≤ 1000
        omega
      have ht5 : ((⟨#[119, 111, 114, 100, 32]⟩ : ByteArray) ++ s ++ ⟨#[10, 101, 120, 99, 104, 97, 110, 103, 101, 10, 119, 111, 114, 100, 32]⟩ ++ s ++ ⟨#[10, 119, 111, 114, 100, 10, 102, 111, 114, 109, 117, 108, 97, 32]⟩ ++ f : ByteArray).size ≤ 1000 := by
        simp only [ByteArray.size_append]
        show 5 + s.size + 15 + s.size + 14 + f.size ≤ 1000
        omega
      have ht6 : ((⟨#[119, 111, 114, 100, 32]⟩ : ByteArray) ++ s ++ ⟨#[10, 101, 120, 99, 104, 97, 110, 103, 101, 10, 119, 111, 114, 100, 32]⟩ ++ s ++ ⟨#[10, 119, 111, 114, 100, 10, 102, 111, 114, 109, 117, 108, 97, 32]⟩ ++ f ++ ⟨#[10, 104, 111, 108, 100, 115, 10, 102, 111, 114, 109, 117, 108, 97, 32, 80, 97, 10, 115, 101, 116, 10, 99, 108, 97, 115, 115, 101, 115, 32, 49, 10]⟩ : ByteArray).size ≤ 1000 := by
        simp only [ByteArray.size_append]
        show 5 + s.size + 15 + s.size + 14 + f.size + 32 ≤ 1000
        omega
      go_upto_region 11 with fail
      clear ht1 ht2 ht3 ht4 ht5 ht6
      cases c
      · have hsl : ∀ wx, (Instr.slice 9 (.string ⟨#[102, 97, 108, 115, 101, 10]⟩) none (some (.int .i64 5)) none).run Tryz.prog wx = .ok (.string ⟨#[102, 97, 108, 115, 101]⟩) wx := fun wx => by kernel_rfl
        have HGW2 : Hid (∀ w, Calls Tryz.prog 10 #[.bool false] w fun e w' => e = .returned (.string ⟨#[102, 97, 108, 115, 101, 10]⟩) ∧ Below w.heap.size w w') := HGW.out
        have HRS2 : Hid (∀ w, Tab w → Calls Tryz.prog 13 #[.string ((⟨#[119, 111, 114, 100, 32]⟩ : ByteArray) ++ s ++ ⟨#[10, 101, 120, 99, 104, 97, 110, 103, 101, 10, 119, 111, 114, 100, 32]⟩ ++ s ++ ⟨#[10, 119, 111, 114, 100, 10, 102, 111, 114, 109, 117, 108, 97, 32]⟩ ++ f ++ ⟨#[10, 104, 111, 108, 100, 115, 10, 102, 111, 114, 109, 117, 108, 97, 32, 80, 97, 10, 115, 101, 116, 10, 99, 108, 97, 115, 115, 101, 115, 32, 49, 10]⟩)] w fun e w' => e = .returned (.string (F ++ ⟨#[10, 48, 58, 48, 10]⟩ ++ F ++ ⟨#[10]⟩ ++ s ++ ⟨#[10, 111, 107, 10]⟩ ++ ⟨#[102, 97, 108, 115, 101]⟩ ++ ⟨#[32]⟩ ++ ⟨#[102, 97, 108, 115, 101, 10]⟩ ++ ⟨#[111, 107, 10]⟩ ++ NL ++ ⟨#[10]⟩ ++ NC ++ ⟨#[10]⟩)) ∧ Below w.heap.size w w') := fun w ht => by
          have h := HRS.out w ht
          rw [← word_out F s ⟨#[102, 97, 108, 115, 101, 10]⟩ ⟨#[102, 97, 108, 115, 101]⟩ false L C rfl (bytes_eq rfl), hNL, hNC] at h
          exact h
        clear HRS HGW
        have hz1 : (F ++ ⟨#[10, 48, 58, 48, 10]⟩ : ByteArray).size ≤ 2000 := by
          simp only [ByteArray.size_append]
          show F.size + 5 ≤ 2000
          omega
        have hz2 : (F ++ ⟨#[10, 48, 58, 48, 10]⟩ ++ F : ByteArray).size ≤ 2000 := by
          simp only [ByteArray.size_append]
          show F.size + 5 + F.size ≤ 2000
          omega
        have hz3 : (F ++ ⟨#[10, 48, 58, 48, 10]⟩ ++ F ++ ⟨#[10]⟩ : ByteArray).size ≤ 2000 := by
          simp only [ByteArray.size_append]
          show F.size + 5 + F.size + 1 ≤ 2000
          omega
        have hz4 : (F ++ ⟨#[10, 48, 58, 48, 10]⟩ ++ F ++ ⟨#[10]⟩ ++ s : ByteArray).size ≤ 2000 := by
          simp only [ByteArray.size_append]
          show F.size + 5 + F.size + 1 + s.size ≤ 2000
          omega
        have hz5 : (F ++ ⟨#[10, 48, 58, 48, 10]⟩ ++ F ++ ⟨#[10]⟩ ++ s ++ ⟨#[10, 111, 107, 10]⟩ : ByteArray).size ≤ 2000 := by
          simp only [ByteArray.size_append]
          show F.size + 5 + F.size + 1 + s.size + 4 ≤ 2000
          omega
        have hz6 : (F ++ ⟨#[10, 48, 58, 48, 10]⟩ ++ F ++ ⟨#[10]⟩ ++ s ++ ⟨#[10, 111, 107, 10]⟩ ++ ⟨#[102, 97, 108, 115, 101]⟩ : ByteArray).size ≤ 2000 := by
          simp only [ByteArray.size_append]
          show F.size + 5 + F.size + 1 + s.size + 4 + 5 ≤ 2000
          omega
        have hz7 : (F ++ ⟨#[10, 48, 58, 48, 10]⟩ ++ F ++ ⟨#[10]⟩ ++ s ++ ⟨#[10, 111, 107, 10]⟩ ++ ⟨#[102, 97, 108, 115, 101]⟩ ++ ⟨#[32]⟩ : ByteArray).size ≤ 2000 := by
          simp only [ByteArray.size_append]
          show F.size + 5 + F.size + 1 + s.size + 4 + 5 + 1 ≤ 2000
          omega
        have hz8 : (F ++ ⟨#[10, 48, 58, 48, 10]⟩ ++ F ++ ⟨#[10]⟩ ++ s ++ ⟨#[10, 111, 107, 10]⟩ ++ ⟨#[102, 97, 108, 115, 101]⟩ ++ ⟨#[32]⟩ ++ ⟨#[102, 97, 108, 115, 101, 10]⟩ : ByteArray).size ≤ 2000 := by
          simp only [ByteArray.size_append]
          show F.size + 5 + F.size + 1 + s.size + 4 + 5 + 1 + 6 ≤ 2000
          omega
        have hz9 : (F ++ ⟨#[10, 48, 58, 48, 10]⟩ ++ F ++ ⟨#[10]⟩ ++ s ++ ⟨#[10, 111, 107, 10]⟩ ++ ⟨#[102, 97, 108, 115, 101]⟩ ++ ⟨#[32]⟩ ++ ⟨#[102, 97, 108, 115, 101, 10]⟩ ++ ⟨#[111, 107, 10]⟩ : ByteArray).size ≤ 2000 := by
          simp only [ByteArray.size_append]
          show F.size + 5 + F.size + 1 + s.size + 4 + 5 + 1 + 6 + 3 ≤ 2000
          omega
        have hz10 : (F ++ ⟨#[10, 48, 58, 48, 10]⟩ ++ F ++ ⟨#[10]⟩ ++ s ++ ⟨#[10, 111, 107, 10]⟩ ++ ⟨#[102, 97, 108, 115, 101]⟩ ++ ⟨#[32]⟩ ++ ⟨#[102, 97, 108, 115, 101, 10]⟩ ++ ⟨#[111, 107, 10]⟩ ++ NL : ByteArray).size ≤ 2000 := by
          simp only [ByteArray.size_append]
          show F.size + 5 + F.size + 1 + s.size + 4 + 5 + 1 + 6 + 3 + NL.size ≤ 2000
          omega
        have hz11 : (F ++ ⟨#[10, 48, 58, 48, 10]⟩ ++ F ++ ⟨#[10]⟩ ++ s ++ ⟨#[10, 111, 107, 10]⟩ ++ ⟨#[102, 97, 108, 115, 101]⟩ ++ ⟨#[32]⟩ ++ ⟨#[102, 97, 108, 115, 101, 10]⟩ ++ ⟨#[111, 107, 10]⟩ ++ NL ++ ⟨#[10]⟩ : ByteArray).size ≤ 2000 := by
          simp only [ByteArray.size_append]
          show F.size + 5 + F.size + 1 + s.size + 4 + 5 + 1 + 6 + 3 + NL.size + 1 ≤ 2000
          omega
        have hz12 : (F ++ ⟨#[10, 48, 58, 48, 10]⟩ ++ F ++ ⟨#[10]⟩ ++ s ++ ⟨#[10, 111, 107, 10]⟩ ++ ⟨#[102, 97, 108, 115, 101]⟩ ++ ⟨#[32]⟩ ++ ⟨#[102, 97, 108, 115, 101, 10]⟩ ++ ⟨#[111, 107, 10]⟩ ++ NL ++ ⟨#[10]⟩ ++ NC : ByteArray).size ≤ 2000 := by
          simp only [ByteArray.size_append]
          show F.size + 5 + F.size + 1 + s.size + 4 + 5 + 1 + 6 + 3 + NL.size + 1 + NC.size ≤ 2000
          omega
        have hz13 : (F ++ ⟨#[10, 48, 58, 48, 10]⟩ ++ F ++ ⟨#[10]⟩ ++ s ++ ⟨#[10, 111, 107, 10]⟩ ++ ⟨#[102, 97, 108, 115, 101]⟩ ++ ⟨#[32]⟩ ++ ⟨#[102, 97, 108, 115, 101, 10]⟩ ++ ⟨#[111, 107, 10]⟩ ++ NL ++ ⟨#[10]⟩ ++ NC ++ ⟨#[10]⟩ : ByteArray).size ≤ 2000 := by
          simp only [ByteArray.size_append]
          show F.size + 5 + F.size + 1 + s.size + 4 + 5 + 1 + 6 + 3 + NL.size + 1 + NC.size + 1 ≤ 2000
          omega
        have hlen : (⟨#[102, 97, 108, 115, 101, 10]⟩ : ByteArray).size = 6 := rfl
        have hw5 : IntKind.i64.wrap 5 = 5 := by decide
        have HSB : Hid (∀ W', Below w6.heap.size w6 W' → NumsAt W' v L ∧ Tab W') := fun W' hb => ⟨HB6.out.2.1.below hb, HT.out.below (HB6.out.2.2.trans (hb.mono HB6.out.2.2.size)) (Nat.le_refl _)⟩
        have KS : Hid (∀ W', Below w6.heap.size w6 W' → W'.cell? ⟨w4.heap.size, 0, none⟩ = some (.int .i64 (s.size : Int)) ∧ W'.cell? ⟨w4.heap.size, 1, none⟩ = some (.string S) ∧ W'.cell? ⟨w4.heap.size, 2, none⟩ = some (.string R)) := fun W' hb => by
          obtain ⟨s0, s1, s2, _, _, _, _⟩ := (HB6.out.1.below hb HB6.out.1.cells.2.2.2.2.2.2).cells
          exact ⟨s0, s1, s2⟩
        refine wp_region_U (by kernel_rfl) ?_
        refine wpU_seg 33 5 0 28 rfl (by decide) (by kernel_rfl) (fun c a d v w h => by cases d <;> exact h) (by kernel_rfl) ?_
        intro w7 hw7 K hK
        simp only [List.take_succ_cons, List.take_zero, List.drop_zero]
        have HJF := Lib.hid (fun s' : Since w7 => HFS.out s'.w)
        have HJG := Lib.hid (fun s' : Since w7 => HGW2.out s'.w)
        have HJN := Lib.hid (fun s' : Since w7 => HNL.out v s'.w (HSB.out _ (hw7.below.trans (s'.below.mono hw7.below.size))).1 (HSB.out _ (hw7.below.trans (s'.below.mono hw7.below.size))).2)
        obtain ⟨s0, s1, s2⟩ := KS.out w7 hw7.below
        have C0 := fun s' => Since.cell s0 s'
        have C1 := fun s' => Since.cell s1 s'
        have C2 := fun s' => Since.cell s2 s'
        clear s0 s1 s2
        repeat (go_big_quiet_step (first | (with_reducible exact Since.call (HJF.out _)) | (with_reducible exact Since.call (HJG.out _)) | (with_reducible exact Since.call (HJN.out _)) | (with_reducible exact C0 _) | (with_reducible exact C1 _) | (with_reducible exact C2 _)))
        refine wpQuiet_nil ?_
        refine hK _ ?_
        clear hK K hw7 HJF HJG HJN C0 C1 C2
        refine wpU_at 5 4 28 rfl (by kernel_rfl) ?_
        intro w8 hw8
        simp only [List.drop_succ_cons, List.drop_zero]
        refine ⟨by kernel_rfl, ?_⟩
        refine wp_enter (f := 12) (args := #[.agg #[.int .i64 (s.size : Int), .string S, .string R], .int .i64 1]) (by kernel_rfl) ?_
        refine (HCL.out _).mono ?_; rintro e w9 ⟨v2, rfl, ho2, hb⟩
        refine ⟨v2, rfl, RS.of hb, ?_⟩
        have HP9 : Hid (NumsAt w9 v2 C ∧ Below w6.heap.size w6 w9) := ⟨ho2.nums, hw8.below.trans (hb.mono hw8.below.size)⟩
        clear ho2 hb hw8
        simp only [Act.put, List.setIfInBounds_toArray, List.set_cons_zero, List.set_cons_succ]
        refine wpU_seg 4 0 29 4 rfl (by decide) (by kernel_rfl) (fun c a d v w h => by cases d <;> exact h) (by kernel_rfl) ?_
        intro w7 hw7 K hK
        simp only [List.take_succ_cons, List.take_zero, List.drop_succ_cons, List.drop_zero]
        have HJN := Lib.hid (fun s' : Since w7 => HNC.out v2 s'.w (HP9.out.1.below (hw7.below.trans (s'.below.mono hw7.below.size))) (HSB.out _ (HP9.out.2.trans ((hw7.below.trans (s'.below.mono hw7.below.size)).mono HP9.out.2.size))).2)
        repeat (go_big_quiet_step (with_reducible exact Since.call (HJN.out _)))
        refine wpQuiet_nil ?_
        refine hK _ ?_
        clear hK K hw7 HJN
        refine ⟨by kernel_rfl, fun w10 hw10 => ?_⟩
        have HB10 := Lib.hid (HP9.out.2.trans (hw10.below.mono HP9.out.2.size))
        clear hw10
        go_wp2_with fail
        refine (HRS2.out _ (HSB.out _ HB10.out).2).mono ?_; rintro e w11 ⟨rfl, hb⟩
        have HB11 := Lib.hid ((HB6.out.2.2.trans (HB10.out.mono HB6.out.2.2.size)).trans (hb.mono (HB6.out.2.2.trans (HB10.out.mono HB6.out.2.2.size)).size))
        clear hb
        go_wp2_with fail
        go_ret
        exact ⟨ret_bool (by simp), HB11.out⟩
      · have hsl : ∀ wx, (Instr.slice 9 (.string ⟨#[116, 114, 117, 101, 10]⟩) none (some (.int .i64 4)) none).run Tryz.prog wx = .ok (.string ⟨#[116, 114, 117, 101]⟩) wx := fun wx => by kernel_rfl
        have HGW2 : Hid (∀ w, Calls Tryz.prog 10 #[.bool true] w fun e w' => e = .returned (.string ⟨#[116, 114, 117, 101, 10]⟩) ∧ Below w.heap.size w w') := HGW.out
        have HRS2 : Hid (∀ w, Tab w → Calls Tryz.prog 13 #[.string ((⟨#[119, 111, 114, 100, 32]⟩ : ByteArray) ++ s ++ ⟨#[10, 101, 120, 99, 104, 97, 110, 103, 101, 10, 119, 111, 114, 100, 32]⟩ ++ s ++ ⟨#[10, 119, 111, 114, 100, 10, 102, 111, 114, 109, 117, 108, 97, 32]⟩ ++ f ++ ⟨#[10, 104, 111, 108, 100, 115, 10, 102, 111, 114, 109, 117, 108, 97, 32, 80, 97, 10, 115, 101, 116, 10, 99, 108, 97, 115, 115, 101, 115, 32, 49, 10]⟩)] w fun e w' => e = .returned (.string (F ++ ⟨#[10, 48, 58, 48, 10]⟩ ++ F ++ ⟨#[10]⟩ ++ s ++ ⟨#[10, 111, 107, 10]⟩ ++ ⟨#[116, 114, 117, 101]⟩ ++ ⟨#[32]⟩ ++ ⟨#[116, 114, 117, 101, 10]⟩ ++ ⟨#[111, 107, 10]⟩ ++ NL ++ ⟨#[10]⟩ ++ NC ++ ⟨#[10]⟩)) ∧ Below w.heap.size w w') := fun w ht => by
          have h := HRS.out w ht
          rw [← word_out F s ⟨#[116, 114, 117, 101, 10]⟩ ⟨#[116, 114, 117, 101]⟩ true L C rfl (bytes_eq rfl), hNL, hNC] at h
          exact h
        clear HRS HGW
        have hz1 : (F ++ ⟨#[10, 48, 58, 48, 10]⟩ : ByteArray).size ≤ 2000 := by
          simp only [ByteArray.size_append]
          show F.size + 5 ≤ 2000
          omega
        have hz2 : (F ++ ⟨#[10, 48, 58, 48, 10]⟩ ++ F : ByteArray).size ≤ 2000 := by
          simp only [ByteArray.size_append]
          show F.size + 5 + F.size ≤ 2000
          omega
        have hz3 : (F ++ ⟨#[10, 48, 58, 48, 10]⟩ ++ F ++ ⟨#[10]⟩ : ByteArray).size ≤ 2000 := by
          simp only [ByteArray.size_append]
          show F.size + 5 + F.size + 1 ≤ 2000
          omega
        have hz4 : (F ++ ⟨#[10, 48, 58, 48, 10]⟩ ++ F ++ ⟨#[10]⟩ ++ s : ByteArray).size ≤ 2000 := by
          simp only [ByteArray.size_append]
          show F.size + 5 + F.size + 1 + s.size ≤ 2000
          omega
        have hz5 : (F ++ ⟨#[10, 48, 58, 48, 10]⟩ ++ F ++ ⟨#[10]⟩ ++ s ++ ⟨#[10, 111, 107, 10]⟩ : ByteArray).size ≤ 2000 := by
          simp only [ByteArray.size_append]
          show F.size + 5 + F.size + 1 + s.size + 4 ≤ 2000
          omega
        have hz6 : (F ++ ⟨#[10, 48, 58, 48, 10]⟩ ++ F ++ ⟨#[10]⟩ ++ s ++ ⟨#[10, 111, 107, 10]⟩ ++ ⟨#[116, 114, 117, 101]⟩ : ByteArray).size ≤ 2000 := by
          simp only [ByteArray.size_append]
          show F.size + 5 + F.size + 1 + s.size + 4 + 4 ≤ 2000
          omega
        have hz7 : (F ++ ⟨#[10, 48, 58, 48, 10]⟩ ++ F ++ ⟨#[10]⟩ ++ s ++ ⟨#[10, 111, 107, 10]⟩ ++ ⟨#[116, 114, 117, 101]⟩ ++ ⟨#[32]⟩ : ByteArray).size ≤ 2000 := by
          simp only [ByteArray.size_append]
          show F.size + 5 + F.size + 1 + s.size + 4 + 4 + 1 ≤ 2000
          omega
        have hz8 : (F ++ ⟨#[10, 48, 58, 48, 10]⟩ ++ F ++ ⟨#[10]⟩ ++ s ++ ⟨#[10, 111, 107, 10]⟩ ++ ⟨#[116, 114, 117, 101]⟩ ++ ⟨#[32]⟩ ++ ⟨#[116, 114, 117, 101, 10]⟩ : ByteArray).size ≤ 2000 := by
          simp only [ByteArray.size_append]
          show F.size + 5 + F.size + 1 + s.size + 4 + 4 + 1 + 5 ≤ 2000
          omega
        have hz9 : (F ++ ⟨#[10, 48, 58, 48, 10]⟩ ++ F ++ ⟨#[10]⟩ ++ s ++ ⟨#[10, 111, 107, 10]⟩ ++ ⟨#[116, 114, 117, 101]⟩ ++ ⟨#[32]⟩ ++ ⟨#[116, 114, 117, 101, 10]⟩ ++ ⟨#[111, 107, 10]⟩ : ByteArray).size ≤ 2000 := by
          simp only [ByteArray.size_append]
          show F.size + 5 + F.size + 1 + s.size + 4 + 4 + 1 + 5 + 3 ≤ 2000
          omega
        have hz10 : (F ++ ⟨#[10, 48, 58, 48, 10]⟩ ++ F ++ ⟨#[10]⟩ ++ s ++ ⟨#[10, 111, 107, 10]⟩ ++ ⟨#[116, 114, 117, 101]⟩ ++ ⟨#[32]⟩ ++ ⟨#[116, 114, 117, 101, 10]⟩ ++ ⟨#[111, 107, 10]⟩ ++ NL : ByteArray).size ≤ 2000 := by
          simp only [ByteArray.size_append]
          show F.size + 5 + F.size + 1 + s.size + 4 + 4 + 1 + 5 + 3 + NL.size ≤ 2000
          omega
        have hz11 : (F ++ ⟨#[10, 48, 58, 48, 10]⟩ ++ F ++ ⟨#[10]⟩ ++ s ++ ⟨#[10, 111, 107, 10]⟩ ++ ⟨#[116, 114, 117, 101]⟩ ++ ⟨#[32]⟩ ++ ⟨#[116, 114, 117, 101, 10]⟩ ++ ⟨#[111, 107, 10]⟩ ++ NL ++ ⟨#[10]⟩ : ByteArray).size ≤ 2000 := by
          simp only [ByteArray.size_append]
          show F.size + 5 + F.size + 1 + s.size + 4 + 4 + 1 + 5 + 3 + NL.size + 1 ≤ 2000
          omega
        have hz12 : (F ++ ⟨#[10, 48, 58, 48, 10]⟩ ++ F ++ ⟨#[10]⟩ ++ s ++ ⟨#[10, 111, 107, 10]⟩ ++ ⟨#[116, 114, 117, 101]⟩ ++ ⟨#[32]⟩ ++ ⟨#[116, 114, 117, 101, 10]⟩ ++ ⟨#[111, 107, 10]⟩ ++ NL ++ ⟨#[10]⟩ ++ NC : ByteArray).size ≤ 2000 := by
          simp only [ByteArray.size_append]
          show F.size + 5 + F.size + 1 + s.size + 4 + 4 + 1 + 5 + 3 + NL.size + 1 + NC.size ≤ 2000
          omega
        have hz13 : (F ++ ⟨#[10, 48, 58, 48, 10]⟩ ++ F ++ ⟨#[10]⟩ ++ s ++ ⟨#[10, 111, 107, 10]⟩ ++ ⟨#[116, 114, 117, 101]⟩ ++ ⟨#[32]⟩ ++ ⟨#[116, 114, 117, 101, 10]⟩ ++ ⟨#[111, 107, 10]⟩ ++ NL ++ ⟨#[10]⟩ ++ NC ++ ⟨#[10]⟩ : ByteArray).size ≤ 2000 := by
          simp only [ByteArray.size_append]
          show F.size + 5 + F.size + 1 + s.size + 4 + 4 + 1 + 5 + 3 + NL.size + 1 + NC.size + 1 ≤ 2000
          omega
        have hlen : (⟨#[116, 114, 117, 101, 10]⟩ : ByteArray).size = 5 := rfl
        have hw5 : IntKind.i64.wrap 4 = 4 := by decide
        have HSB : Hid (∀ W', Below w6.heap.size w6 W' → NumsAt W' v L ∧ Tab W') := fun W' hb => ⟨HB6.out.2.1.below hb, HT.out.below (HB6.out.2.2.trans (hb.mono HB6.out.2.2.size)) (Nat.le_refl _)⟩
        have KS : Hid (∀ W', Below w6.heap.size w6 W' → W'.cell? ⟨w4.heap.size, 0, none⟩ = some (.int .i64 (s.size : Int)) ∧ W'.cell? ⟨w4.heap.size, 1, none⟩ = some (.string S) ∧ W'.cell? ⟨w4.heap.size, 2, none⟩ = some (.string R)) := fun W' hb => by
          obtain ⟨s0, s1, s2, _, _, _, _⟩ := (HB6.out.1.below hb HB6.out.1.cells.2.2.2.2.2.2).cells
          exact ⟨s0, s1, s2⟩
        refine wp_region_U (by kernel_rfl) ?_
        refine wpU_seg 33 5 0 28 rfl (by decide) (by kernel_rfl) (fun c a d v w h => by cases d <;> exact h) (by kernel_rfl) ?_
        intro w7 hw7 K hK
        simp only [List.take_succ_cons, List.take_zero, List.drop_zero]
        have HJF := Lib.hid (fun s' : Since w7 => HFS.out s'.w)
        have HJG := Lib.hid (fun s' : Since w7 => HGW2.out s'.w)
        have HJN := Lib.hid (fun s' : Since w7 => HNL.out v s'.w (HSB.out _ (hw7.below.trans (s'.below.mono hw7.below.size))).1 (HSB.out _ (hw7.below.trans (s'.below.mono hw7.below.size))).2)
        obtain ⟨s0, s1, s2⟩ := KS.out w7 hw7.below
        have C0 := fun s' => Since.cell s0 s'
        have C1 := fun s' => Since.cell s1 s'
        have C2 := fun s' => Since.cell s2 s'
        clear s0 s1 s2
        repeat (go_big_quiet_step (first | (with_reducible exact Since.call (HJF.out _)) | (with_reducible exact Since.call (HJG.out _)) | (with_reducible exact Since.call (HJN.out _)) | (with_reducible exact C0 _) | (with_reducible exact C1 _) | (with_reducible exact C2 _)))
        refine wpQuiet_nil ?_
        refine hK _ ?_
        clear hK K hw7 HJF HJG HJN C0 C1 C2
        refine wpU_at 5 4 28 rfl (by kernel_rfl) ?_
        intro w8 hw8
        simp only [List.drop_succ_cons, List.drop_zero]
        refine ⟨by kernel_rfl, ?_⟩
        refine wp_enter (f := 12) (args := #[.agg #[.int .i64 (s.size : Int), .string S, .string R], .int .i64 1]) (by kernel_rfl) ?_
        refine (HCL.out _).mono ?_; rintro e w9 ⟨v2, rfl, ho2, hb⟩
        refine ⟨v2, rfl, RS.of hb, ?_⟩
        have HP9 : Hid (NumsAt w9 v2 C ∧ Below w6.heap.size w6 w9) := ⟨ho2.nums, hw8.below.trans (hb.mono hw8.below.size)⟩
        clear ho2 hb hw8
        simp only [Act.put, List.setIfInBounds_toArray, List.set_cons_zero, List.set_cons_succ]
        refine wpU_seg 4 0 29 4 rfl (by decide) (by kernel_rfl) (fun c a d v w h => by cases d <;> exact h) (by kernel_rfl) ?_
        intro w7 hw7 K hK
        simp only [List.take_succ_cons, List.take_zero, List.drop_succ_cons, List.drop_zero]
        have HJN := Lib.hid (fun s' : Since w7 => HNC.out v2 s'.w (HP9.out.1.below (hw7.below.trans (s'.below.mono hw7.below.size))) (HSB.out _ (HP9.out.2.trans ((hw7.below.trans (s'.below.mono hw7.below.size)).mono HP9.out.2.size))).2)
        repeat (go_big_quiet_step (with_reducible exact Since.call (HJN.out _)))
        refine wpQuiet_nil ?_
        refine hK _ ?_
        clear hK K hw7 HJN
        refine ⟨by kernel_rfl, fun w10 hw10 => ?_⟩
        have HB10 := Lib.hid (HP9.out.2.trans (hw10.below.mono HP9.out.2.size))
        clear hw10
        go_wp2_with fail
        refine (HRS2.out _ (HSB.out _ HB10.out).2).mono ?_; rintro e w11 ⟨rfl, hb⟩
        have HB11 := Lib.hid ((HB6.out.2.2.trans (HB10.out.mono HB6.out.2.2.size)).trans (hb.mono (HB6.out.2.2.trans (HB10.out.mono HB6.out.2.2.size)).size))
        clear hb
        go_wp2_with fail
        go_ret
        exact ⟨ret_bool (by simp), HB11.out⟩
  · go_enter Tryz.func3, Tryz.ntmps3
    go_wp2_with fail
    go_ret
    exact ⟨rfl, Below.refl _ _⟩
end Go.Proofs.YtlkemhhkcanmoaaGreatDoor
